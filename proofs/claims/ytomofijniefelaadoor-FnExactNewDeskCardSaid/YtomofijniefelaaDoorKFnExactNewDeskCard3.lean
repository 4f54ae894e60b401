/- The circle by its name, of the reference: l01Named. The laying of strings.Split (printed by a tool of the kit at this dump). strings.Split and setsOf of the program. isIn: all vertices of a face are in another one. madeBy of the program (cut out of XLev). Rows of pairs: what is said of them; the laws' eqPairS. Memory in which one block alone is turned. The new desk, of the program and of the reference: NamedComplex at the circle, NewDesk. The new desk, of the program and of the reference: NewDesk. The new desk of the reference: l11Fresh, l11New, NewDesk (printed by gennf.py). -/
import Derived.Shelf.Strings.SplitShaped
import Derived.Test.YtomofijniefelaaDoorProg
import Derived.Deep.DeepMust
import Derived.Test.YtomofijniefelaaDoorKFnExactNewDeskCard1
import Derived.Test.YtomofijniefelaaDoorKFnExactNewDeskCard2

namespace Go.Proofs.YtomofijniefelaaDoor.H
open Go.RowKit Go.Proofs.YtomofijniefelaaDoorW.PrintWords
set_option linter.unusedVariables false
set_option linter.unusedSimpArgs false
/-- what a text makes -/
def setOf1 (p : ByteArray) : Int := (set1 3 p.data.toList 0 (-1)).1
def circleT : ByteArray := { data := #[99, 105, 114, 99, 108, 101] }
def circleK : ByteArray := { data := #[51, 58, 48, 49, 44, 48, 50, 44, 49, 50] }
def circleP : List ByteArray := [{ data := #[48, 49] }, { data := #[48, 50] }, { data := #[49, 50] }]
def circleX : List Int := [1, 2, 3, 4, 5, 6]
theorem circle_parts : splitX (circleK.extract 2 circleK.size) 44 (circleK.extract 2 circleK.size).size 0 0 = circleP := by kernel_rfl
theorem circle_sets : circleP.map setOf1 = [3, 5, 6] := by kernel_rfl
theorem circle_faces : thL (madeAt [3, 5, 6]) 8 = circleX := by decide +kernel
theorem named_1 : namesL[1]? = some circleT := rfl
theorem named_0 {t : ByteArray} (h : namesL[0]? = some t) : (t.toList == circleT.toList) = false := by cases h; kernel_rfl
theorem known_1 : knownL[1]? = some circleK := rfl
set_option maxRecDepth 100000 in
set_option maxHeartbeats 4000000 in
theorem namedCircle (w : World) :
  Calls Tryd.prog 17 #[.string circleT] w fun e w' => ∃ z, e = .returned (.tuple #[.agg #[.int .i64 3, z], .bool true]) ∧ OwnI w.heap.size w' z circleX ∧ Below w.heap.size w w' := by
 obtain ⟨w1, hw1⟩ : ∃ w1, w1 = w.alloc C0 := ⟨_, rfl⟩
 have hb1 : Below w.heap.size w w1 := by rw [hw1]; exact Below.alloc (Below.refl _ _) (Nat.le_refl _) _
 have hz1 : w1.heap.size = w.heap.size + 1 := by rw [hw1]; simp
 have hk1 : w1.heap[w.heap.size]? = some C0 := by rw [hw1]; exact blk_new w _
 have HB1 := Aside0.mk hb1
 have HK1 := Aside0.mk hk1
 have HZ1 := Aside0.mk hz1
 clear hb1 hz1 hk1
 obtain ⟨s, hs⟩ : ∃ s, s = circleT := ⟨_, rfl⟩
 rw [← hs]
 have HJ := Aside0.mk hs
 clear hs
 go_enter Tryd.func17, Tryd.ntmps17
 go_wp2_with (first | (go_at_call 26; rw [← hw1]; clear hw1; refine (names w1).mono ?_; rintro e w2 ⟨rfl, hr, hb⟩; have HR2 := Aside0.mk hr; have HB2 := Aside0.mk hb; clear hr hb) | (go_at_call 27; refine (known w2).mono ?_; rintro e w3 ⟨rfl, hr, hb⟩; have HR3 := Aside0.mk hr; have HRN : Aside0 (RowT w3 w1.heap.size namesL) := ⟨by have h0 := HR2.out; unfold RowT at h0 ⊢; rw [hb.block _ (blk_lt h0)]; exact h0⟩; have HB3 := Aside0.mk (HB2.out.trans (hb.mono HB2.out.size)); clear hr hb))
 go_loopw [6] (fun s6 wr => ∃ i : Nat, s6 = .int .i64 i ∧ i ≤ 1 ∧ wr = w3) (fun s6 _ => 1 - (intOf s6).toNat)
 case atStart => exact ⟨0, rfl, Nat.zero_le _, rfl⟩
 case round =>
  obtain ⟨i, rfl, hi, rfl⟩ := hrel
  obtain ⟨w30, hw30⟩ : ∃ w30, w30 = wr := ⟨_, rfl⟩
  subst hw30
  by_cases hi0 : i = 0
  ·have hiI : (i : Int) < 11 := by omega
   obtain ⟨t, ht⟩ : ∃ t, namesL[i]? = some t := ⟨_, List.getElem?_eq_getElem (show i < namesL.length by show i < 11; omega)⟩
   have hcn := HRN.out.cell ht
   have hq : (t.toList == s.toList) = false := by rw [HJ.out]; subst hi0; exact named_0 ht
   have HI0 := Aside0.mk hi0
   clear ht hi0 hi
   go_wp2
   go_roundw
   case rel => exact ⟨i + 1, by go_num, by have := HI0.out; omega, trivial⟩
   case measure => have := HI0.out; simp [intOf]; omega
  ·have hi1 : i = 1 := by omega
   have hiI : (i : Int) < 11 := by omega
   have hcn := HRN.out.cell named_1
   have hcn : w30.cell? ⟨w1.heap.size, i, none⟩ = some (.string s) := by rw [hi1, HJ.out]; exact hcn
   have hq : (s.toList == s.toList) = true := beq_self_eq_true _
   obtain ⟨kk, hkk⟩ : ∃ k, k = circleK := ⟨_, rfl⟩
   have hck := HR3.out.cell known_1
   rw [← hkk, ← hi1] at hck
   have HKK := Aside0.mk hkk
   have hlt0 : 0 < kk.size := by rw [hkk]; decide
   have h0I : (0 : Int) < (kk.size : Int) := by omega
   have hs2 : 2 ≤ kk.size := by rw [hkk]; decide
   have hsk : kk.size ≤ 100000 := by rw [hkk]; decide
   have h2I : (2 : Int) ≤ (kk.size : Int) := by omega
   have hby : (((kk[0]'hlt0).toNat : Nat) : Int) = 51 := by subst hkk; rfl
   have hba : Below w30.heap.size w30 (w30.alloc (.cells #[] 2)) := Below.alloc (Below.refl _ _) (Nat.le_refl _) _
   have hckA := pw_cell_below hba hck
   have HBA := Aside0.mk (HB1.out.trans ((HB3.out.trans (hba.mono HB3.out.size)).mono HB1.out.size))
   have HOA := Aside0.mk (OwnI.empty (b := w30.heap.size) w30 (Nat.le_refl _))
   have hzr : w.heap.size < w30.heap.size := by have h1 := HB3.out.size; have h2 := HZ1.out; omega
   have hkA : (w30.alloc (.cells #[] 2)).heap[w.heap.size]? = some C0 := by
    rw [hba.block _ hzr, HB3.out.block _ (by have h2 := HZ1.out; omega)]; exact HK1.out
   have HKA := Aside0.mk hkA
   have HZA : Aside0 (w.heap.size < w30.heap.size ∧ w30.heap.size ≤ (w30.alloc (.cells #[] 2)).heap.size ∧ (w30.alloc (.cells #[] 2)).heap.size = w30.heap.size + 1) := ⟨hzr, hba.size, by simp⟩
   have HSP := Aside0.mk (fun W => splitIs (kk.extract 2 kk.size) (by rw [ByteArray.size_extract]; omega) 44 W)
   obtain ⟨PS, hPS⟩ : ∃ p, p = splitX (kk.extract 2 kk.size) 44 (kk.extract 2 kk.size).size 0 0 := ⟨_, rfl⟩
   rw [← hPS] at HSP
   have HPE : Aside0 (PS = circleP) := ⟨by rw [hPS, hkk]; exact circle_parts⟩
   have HPL : Aside0 (PS.length ≤ 1000) := ⟨by rw [HPE.out]; decide⟩
   have HPS : Aside0 (∀ p ∈ PS, p.size ≤ 100000 ∧ ∃ z : Nat, setOf1 p = z ∧ z < 64) := ⟨fun p hp => by
    rw [HPE.out] at hp
    unfold circleP at hp
    simp only [List.mem_cons, List.not_mem_nil, or_false] at hp
    rcases hp with rfl | rfl | rfl
    ·exact ⟨by decide, 3, by kernel_rfl, by decide⟩
    ·exact ⟨by decide, 5, by kernel_rfl, by decide⟩
    ·exact ⟨by decide, 6, by kernel_rfl, by decide⟩⟩
   clear hi hba hkA hzr hkk hi0 hi1 hPS
   go_wp2_with (first | (go_at_call 28; refine (HSP.out _).mono ?_; rintro e w5 ⟨u5, rfl, ho, hb⟩; obtain ⟨A5, c5, rfl, hT5⟩ := ho.form; have HT5 := Aside0.mk hT5; have HO5 := Aside0.mk (OwnI.below HOA.out hb); have HB5 := Aside0.mk (HBA.out.trans (hb.mono HBA.out.size)); have HK5 : Aside0 (w5.heap[w.heap.size]? = some C0) := ⟨by rw [hb.block _ (blk_lt HKA.out)]; exact HKA.out⟩; have HZ5 := Aside0.mk hb.size; clear ho hb hT5))
   go_loopw [8, 10] (fun s8 s10 wx => ∃ (q : Nat) (ss : List Int), s10 = .int .i64 q ∧ q ≤ PS.length ∧ Aside0 (ss = (PS.take q).map setOf1) ∧ Aside0 (OwnI w30.heap.size wx s8 ss) ∧ Aside0 (Below w30.heap.size w5 wx) ∧ Aside0 (Mid (w30.heap.size + 1) w5.heap.size w5 wx) ∧ Aside0 (∀ k, s8.ownBlock = some k → k = w30.heap.size ∨ w5.heap.size ≤ k)) (fun _ s10 _ => PS.length - (intOf s10).toNat)
   case atStart => exact ⟨0, [], rfl, Nat.zero_le _, ⟨rfl⟩, HO5, ⟨Below.refl _ _⟩, ⟨Mid.refl _ _ _⟩, ⟨fun k hk => .inl (by simpa [Value.ownBlock] using hk.symm)⟩⟩
   case round =>
    obtain ⟨q, ss, rfl, hqm, HSE, HOx, HBx, HMx, HWx⟩ := hrel
    have HL : Aside0 (ss.length = q) := ⟨by rw [HSE.out, List.length_map, List.length_take]; omega⟩
    obtain ⟨A8, c8, e8, -⟩ := id HOx.out.read
    rw [HL.out] at e8
    subst e8
    by_cases hlt : q < PS.length
    ·have hltI : (q : Int) < (PS.length : Int) := by omega
     obtain ⟨p, hp⟩ : ∃ p, PS[q]? = some p := ⟨_, List.getElem?_eq_getElem hlt⟩
     obtain ⟨ad, rfl, ⟨hpb1, hpb2⟩, hpc⟩ := HT5.out q p hp
     have hpc := (HMx.out.cell (p := ad.add q) (by rw [add_blk]; have := HZA.out.2.2; omega) (by rw [add_blk]; exact hpb2)).trans hpc
     obtain ⟨hps, z, hz, hz64⟩ := HPS.out p (List.mem_of_getElem? hp)
     have HPS1 := Aside0.mk hps
     have HSI := Aside0.mk (fun W => setIs p hps 3 (by decide) (by decide) W)
     obtain ⟨x, hx⟩ : ∃ x, x = (set1 3 p.data.toList 0 (-1)).2 := ⟨_, rfl⟩
     have hz' : (set1 3 p.data.toList 0 (-1)).1 = (z : Int) := hz
     rw [← hx, hz'] at HSI
     have HTK : Aside0 (ss ++ [(z : Int)] = (PS.take (q + 1)).map setOf1) := ⟨by
      obtain ⟨h9, e9⟩ := List.getElem?_eq_some_iff.1 hp
      rw [List.take_succ_eq_append_getElem h9, List.map_append, ← HSE.out, e9]
      simp [hz]⟩
     have hll := HPL.out
     clear hpb1 hpb2 hps hp hx hz hz'
     go_wp2_with (first | (go_at_call 29; refine (HSI.out _).mono ?_; rintro e w7 ⟨rfl, hb⟩; have HO7 := Aside0.mk (OwnI.below HOx.out hb); have HB7 := Aside0.mk (HBx.out.trans (hb.mono (Nat.le_trans (Nat.le_trans HZA.out.2.1 HZ5.out) HBx.out.size))); have HM7 := Aside0.mk (HMx.out.trans (Mid.of_below (hb.mono HBx.out.size))); have HZ7 := Aside0.mk (Nat.le_trans HBx.out.size hb.size); clear hb) | (at_builtin; refine app_own (w0 := w5) w30.heap.size rfl (.tmp 56) (.tmp 58) rfl _ ss (z : Int) rfl rfl HO7.out HB7.out (Nat.le_trans HZA.out.2.1 (Nat.le_trans HZ5.out HB7.out.size)) (by rw [HL.out]; omega) ?_; intro v1 w9 ho hb hg hat; have HO9 := Aside0.mk ho; have HB9 := Aside0.mk hb; have HM9 : Aside0 (Mid (w30.heap.size + 1) w5.heap.size w5 w9) := ⟨HM7.out.trans (fun k h1 h2 => hg.block k (Nat.lt_of_lt_of_le h2 (Nat.le_trans HZ7.out (Nat.le_refl _))) (fun e => by have := HWx.out k e.symm; omega))⟩; have HW9 : Aside0 (∀ k, v1.ownBlock = some k → k = w30.heap.size ∨ w5.heap.size ≤ k) := ⟨(fun k hk => by rcases hat with hat | ⟨b, hb', hlb⟩; (rw [hat] at hk; exact HWx.out k hk); (rw [hb'] at hk; cases hk; exact .inr (Nat.le_trans HZ7.out hlb)))⟩; clear ho hb hg hat))
     go_roundw
     case rel => exact ⟨q + 1, ss ++ [(z : Int)], by go_num, by omega, HTK, HO9, HB9, HM9, HW9⟩
     case measure => simp [intOf]; omega
    ·have hltI : ¬ (q : Int) < (PS.length : Int) := by omega
     have hsE : ss = [3, 5, 6] := by rw [HSE.out, List.take_of_length_le (by omega), HPE.out]; exact circle_sets
     have hkx : wr.heap[w.heap.size]? = some C0 := by rw [HBx.out.block _ HZA.out.1]; exact HK5.out
     have HKX := Aside0.mk hkx
     have HRD := Aside0.mk (by have h := HOx.out.read; exact h)
     have HSS : Aside0 (∀ s ∈ ss, ∃ z : Nat, s = z ∧ z < 64) := ⟨fun s hs => by rw [hsE] at hs; simp only [List.mem_cons, List.not_mem_nil, or_false] at hs; rcases hs with rfl | rfl | rfl <;> first | exact ⟨3, rfl, by decide⟩ | exact ⟨5, rfl, by decide⟩ | exact ⟨6, rfl, by decide⟩⟩
     have HFE : Aside0 (thL (madeAt ss) (2 ^ 3) = circleX) := ⟨by rw [hsE]; exact circle_faces⟩
     clear hkx hsE
     go_wp2_with (first | (go_at_call 30; go_must (refine (specMade 3 (by decide) _ ss _ HRD.out HSS.out).mono ?_; rw [HFE.out]; rintro e w6 ⟨u, rfl, ho, hb⟩; have hk6 : w6.heap[w.heap.size]? = some C0 := (by rw [hb.block _ (blk_lt HKX.out)]; exact HKX.out); have HK6 := Aside0.mk hk6; have HO6 := Aside0.mk ho; have HB6 := Aside0.mk (HBx.out.trans (hb.mono (Nat.le_trans (Nat.le_trans HZA.out.2.1 HZ5.out) HBx.out.size))); have HZ6 := Aside0.mk (Nat.le_trans (Nat.le_trans HZA.out.2.1 HZ5.out) HBx.out.size); obtain ⟨A6, c6, rfl, -⟩ := id ho.read; have c00 : w6.cell? ⟨w.heap.size, 0, none⟩ = some (.int .i64 0) := blk_cell hk6 0; have c01 : w6.cell? ⟨w.heap.size, 1, none⟩ = some (.slice none 0 0) := blk_cell hk6 1; have f00 : w6.frozen? ⟨w.heap.size, 0, none⟩ = false := blk_frozen hk6 0; have f01 : w6.frozen? ⟨w.heap.size, 1, none⟩ = false := blk_frozen hk6 1; clear ho hb hk6)))
     refine bodyPost_ret (results_ct rfl _ _ w.heap.size 24 #[.int .i64 3, .slice A6 circleX.length c6] (0, 0) _ rfl (by refine blk_put (cs := #[.int .i64 3, .slice none 0 0]) ?_ 1 _ rfl; refine blk_put (cs := #[.int .i64 0, .slice none 0 0]) ?_ 0 _ rfl; exact HK6.out) Tryd.underlying24 rfl (by kernel_rfl)) rfl ?_
     have hbb : Below w.heap.size w6 ((w6.setCell ⟨w.heap.size, 0, none⟩ (Value.int IntKind.i64 3)).setCell ⟨w.heap.size, 1, none⟩ (Value.slice A6 circleX.length c6)) := ((Below.refl _ _).setCell (by simp) _).setCell (by simp) _
     have hq1 := HZA.out.1
     have hw6 : Below w.heap.size w w6 := HB5.out.trans (HB6.out.mono (Nat.le_of_lt hq1))
     refine ⟨_, rfl, ?_, hw6.trans hbb⟩
     have hz6 := HZ6.out
     have ho := HO6.out
     have hbse := ho.base
     have ho := ho.lower (b' := w.heap.size) (by omega)
     exact (ho.grown (set_grown' _ w.heap.size _ _) (fun j hj e => by have := hbse _ hj; cases e; omega)).grown (set_grown' _ w.heap.size _ _) (fun j hj e => by have := hbse _ hj; cases e; omega)
end Go.Proofs.YtomofijniefelaaDoor.H

namespace Go.Proofs
open Go.Shelf
def Tryd.laysM146_ren : Go.Shelf.Ren := ⟨fun | 146 => 31 | 221 => 40 | 268 => 43 | 138 => 44 | 143 => 45 | 195 => 46 | 197 => 47 | 218 => 48 | 219 => 49 | 260 => 50 | 217 => 51 | 225 => 52 | 224 => 53 | 267 => 54 | 266 => 55 | 314 => 56 | n => n, fun | 9 => 9 | 31 => 51 | 3 => 3 | 4 => 4 | 0 => 0 | 105 => 71 | 21 => 21 | 5 => 5 | 46 => 75 | 119 => 76 | 139 => 79 | 138 => 78 | 146 => 81 | 51 => 80 | n => n, fun | 1 => 0 | 3 => 1 | 4 => 2 | n => n⟩
theorem Tryd.laysM146 : Go.Proofs.LaysM.n146 Tryd.prog Tryd.laysM146_ren := {
 mixed := by kernel_rfl
 f138 := Tryd.func44.trans (congrArg some (by kernel_rfl))
 f143 := Tryd.func45.trans (congrArg some (by kernel_rfl))
 f146 := Tryd.func31.trans (congrArg some (by kernel_rfl))
 f195 := Tryd.func46.trans (congrArg some (by kernel_rfl))
 f197 := Tryd.func47.trans (congrArg some (by kernel_rfl))
 f217 := Tryd.func51.trans (congrArg some (by kernel_rfl))
 f218 := Tryd.func48.trans (congrArg some (by kernel_rfl))
 f219 := Tryd.func49.trans (congrArg some (by kernel_rfl))
 f221 := Tryd.func40.trans (congrArg some (by kernel_rfl))
 f224 := Tryd.func53.trans (congrArg some (by kernel_rfl))
 f225 := Tryd.func52.trans (congrArg some (by kernel_rfl))
 f260 := Tryd.func50.trans (congrArg some (by kernel_rfl))
 f266 := Tryd.func55.trans (congrArg some (by kernel_rfl))
 f267 := Tryd.func54.trans (congrArg some (by kernel_rfl))
 f268 := Tryd.func43.trans (congrArg some (by kernel_rfl))
 f314 := Tryd.func56.trans (congrArg some (by kernel_rfl))
 t0 := Tryd.underlying0
 a0 := Tryd.isAgg0
 z0 := Tryd.sizeOf0
 v0 := Tryd.zeroValue0
 t3 := Tryd.underlying3
 a3 := Tryd.isAgg3
 z3 := Tryd.sizeOf3
 v3 := Tryd.zeroValue3
 t4 := Tryd.underlying4
 a4 := Tryd.isAgg4
 z4 := Tryd.sizeOf4
 v4 := Tryd.zeroValue4
 t5 := Tryd.underlying5
 a5 := Tryd.isAgg5
 z5 := Tryd.sizeOf5
 v5 := Tryd.zeroValue5
 t9 := Tryd.underlying9
 a9 := Tryd.isAgg9
 z9 := Tryd.sizeOf9
 v9 := Tryd.zeroValue9
 t21 := Tryd.underlying21
 a21 := Tryd.isAgg21
 z21 := Tryd.sizeOf21
 v21 := Tryd.zeroValue21
 t31 := Tryd.underlying51
 a31 := Tryd.isAgg51
 z31 := Tryd.sizeOf51
 v31 := Tryd.zeroValue51
 t46 := Tryd.underlying75
 a46 := Tryd.isAgg75
 z46 := Tryd.sizeOf75
 v46 := Tryd.zeroValue75
 t51 := Tryd.underlying80
 a51 := Tryd.isAgg80
 z51 := Tryd.sizeOf80
 v51 := Tryd.zeroValue80
 t105 := Tryd.underlying71
 a105 := Tryd.isAgg71
 z105 := Tryd.sizeOf71
 v105 := Tryd.zeroValue71
 t119 := Tryd.underlying76
 a119 := Tryd.isAgg76
 z119 := Tryd.sizeOf76
 t138 := Tryd.underlying78
 a138 := Tryd.isAgg78
 z138 := Tryd.sizeOf78
 v138 := Tryd.zeroValue78
 t139 := Tryd.underlying79
 a139 := Tryd.isAgg79
 z139 := Tryd.sizeOf79
 v139 := Tryd.zeroValue79
 t146 := Tryd.underlying81
 a146 := Tryd.isAgg81
 z146 := Tryd.sizeOf81
 v146 := Tryd.zeroValue81
 g1 := by kernel_rfl
 g3 := by kernel_rfl
 g4 := by kernel_rfl
 i0 := by kernel_rfl
 i3 := by kernel_rfl
 i4 := by kernel_rfl
 i5 := by kernel_rfl
 i9 := by kernel_rfl
 i21 := by kernel_rfl
 i31 := by kernel_rfl
 i46 := by kernel_rfl
 i51 := by kernel_rfl
 i105 := by kernel_rfl
 i138 := by kernel_rfl
 i139 := by kernel_rfl
 i146 := by kernel_rfl
 m1 := by kernel_rfl
 s1_3 := fun w h => Go.Proofs.cell_of_shapedOpen_int (zero := #[.int .i64 0]) (t := 3) h (of_decide_eq_true (by kernel_rfl)) (by kernel_rfl) rfl (by kernel_rfl) (by kernel_rfl) Tryd.underlying3
 m3 := by kernel_rfl
 m4 := by kernel_rfl }
end Go.Proofs

namespace Go.Proofs.YtomofijniefelaaDoor.H
open Go.RowKit Go.Proofs.YtomofijniefelaaDoorW.PrintWords
set_option linter.unusedVariables false
set_option linter.unusedSimpArgs false
/-- the library's own number lies there -/
def MaxL (w : World) : Prop := ∃ m : Int, w.cell? ⟨Tryd.laysM146_ren.g 1, 0, none⟩ = some (.int .i64 m)
theorem MaxL.below {w w' : World} (h : MaxL w) (hb : Below w.heap.size w w') : MaxL w' := by
 obtain ⟨m, hm⟩ := h
 exact ⟨m, pw_cell_below hb hm⟩
theorem maxL_shaped {w : World} (h : w.ShapedOpen Tryd.prog) : MaxL w := Tryd.laysM146.s1_3 w h
theorem splitText (s sep : ByteArray) (w : World) (hm : MaxL w) (hs : s.size < 4294967281) (h1 : 1 ≤ sep.size) :
  Calls Tryd.prog 31 #[.string s, .string sep] w fun e w' =>
   e = .returned (.slice (some ⟨w.heap.size, 0, none⟩) (Lib.countB s sep + 1) (Lib.countB s sep + 1)) ∧ w' = w.alloc (.cells ((Lib.splitB sep 0 (Lib.countB s sep) s).map Value.string).toArray 9) :=
 let ⟨m, hm⟩ := hm
 Any.strings_Split { Tryd.laysM146 with } Tryd.laysM146.i9 s sep m w hs hm h1
/-- the sets of texts -/
def setsGo : List ByteArray → List Int → List Int × Bool
 | [], a => (a, true)
 | s :: r, a => if (ansSetOf s).2 then setsGo r (a ++ [(ansSetOf s).1]) else ([], false)
theorem setsGo_drop {l : List ByteArray} {i : Nat} {s : ByteArray} (hi : l[i]? = some s) (a : List Int) : setsGo (l.drop i) a = if (ansSetOf s).2 then setsGo (l.drop (i + 1)) (a ++ [(ansSetOf s).1]) else ([], false) := by
 obtain ⟨h, rfl⟩ := List.getElem?_eq_some_iff.1 hi
 rw [List.drop_eq_getElem_cons h]
 rfl
set_option maxRecDepth 100000 in
set_option maxHeartbeats 4000000 in
theorem setsOf (s : ByteArray) (w : World) (hm : MaxL w) (hs : s.size ≤ 1000000) (l : List ByteArray) (hl : Lib.splitB ⟨#[44]⟩ 0 (Lib.countB s ⟨#[44]⟩) s = l) (hn : l.length = Lib.countB s ⟨#[44]⟩ + 1) (hn2 : l.length ≤ 1000001) (hp : ∀ t ∈ l, t.size ≤ 1000000) :
  Calls Tryd.prog 20 #[.string s] w fun e w' => ∃ u, e = .returned (.tuple #[u, .bool (setsGo l []).2]) ∧ OwnI w.heap.size w' u (setsGo l []).1 ∧ Below w.heap.size w w' := by
 obtain ⟨w1, hw1⟩ : ∃ w1, w1 = w.alloc (.cells (l.map Value.string).toArray 9) := ⟨_, rfl⟩
 have hb1 : Below w.heap.size w w1 := by rw [hw1]; exact Below.alloc (Below.refl _ _) (Nat.le_refl _) _
 have HB1 := Aside0.mk hb1
 have HSP := Aside0.mk (splitText s ⟨#[44]⟩ w hm (by omega) (by decide))
 rw [hl, ← hn, ← hw1] at HSP
 have HCL : Aside0 (∀ i t, l[i]? = some t → w1.cell? ⟨w.heap.size, i, none⟩ = some (.string t)) := ⟨fun i t hi => by
  rw [hw1]
  refine (cell_of_row _ _ i _ _ _ (blk_new w _)).trans ?_
  simp [hi]⟩
 have HP := Aside0.mk hp
 have HO0 : Aside0 (OwnI w1.heap.size w1 (.slice none 0 0) []) := ⟨OwnI.nil _ _⟩
 clear hb1 hw1 hl hn hp hm
 go_enter Tryd.func20, Tryd.ntmps20
 go_wp2_with (first | (go_at_call 31; refine HSP.out.mono ?_; rintro e w2 ⟨rfl, h2⟩; rw [h2]; clear h2 w2))
 go_loopw [4, 12] (fun s4 s12 wr => ∃ (i : Nat) (acc : List Int), s12 = .int .i64 i ∧ i ≤ l.length ∧ Aside0 (OwnI w1.heap.size wr s4 acc) ∧ Aside0 (acc.length ≤ i) ∧ Aside0 (setsGo (l.drop i) acc = setsGo l []) ∧ Aside0 (Below w1.heap.size w1 wr)) (fun _ s12 _ => l.length - (intOf s12).toNat)
 case atStart => exact ⟨0, [], rfl, Nat.zero_le _, HO0, ⟨Nat.le_refl _⟩, ⟨rfl⟩, ⟨Below.refl _ _⟩⟩
 case round =>
  obtain ⟨i, acc, rfl, hi, HO, HL, HS, HBr⟩ := hrel
  obtain ⟨A4, c4, rfl, -⟩ := id HO.out.read
  obtain ⟨L4, hL4⟩ : ∃ L, L = acc.length := ⟨_, rfl⟩
  rw [← hL4] at HO ⊢
  have HL4 := Aside0.mk hL4
  clear hL4
  by_cases hlt : i < l.length
  ·have hltI : (i : Int) < (l.length : Int) := by omega
   obtain ⟨t, ht⟩ : ∃ t, l[i]? = some t := ⟨_, List.getElem?_eq_getElem hlt⟩
   have hcell := pw_cell_below HBr.out (HCL.out i t ht)
   have hts := HP.out t (List.mem_of_getElem? ht)
   have HD := Aside0.mk (setsGo_drop ht acc)
   have HSO := Aside0.mk (fun W => setOf t W hts)
   obtain ⟨x, hx⟩ : ∃ x, x = (ansSetOf t).1 := ⟨_, rfl⟩
   obtain ⟨q, hq⟩ : ∃ q, q = (ansSetOf t).2 := ⟨_, rfl⟩
   rw [← hx, ← hq] at HSO HD
   clear hx hq ht
   cases q with
   | true =>
    have HE : Aside0 (setsGo (l.drop (i + 1)) (acc ++ [x]) = setsGo l []) := ⟨by rw [← HS.out, HD.out, if_pos rfl]⟩
    go_wp2_with (first | (go_at_call 32; refine (HSO.out _).mono ?_; rintro e w3 ⟨rfl, hb⟩; have HB3 := Aside0.mk (HBr.out.trans (hb.mono HBr.out.size)); have HO3 := Aside0.mk (HO.out.below hb); have hsz3 := HB3.out.size; clear hb) | (at_builtin; go_must (refine app_own (w0 := w3) w1.heap.size rfl (.tmp 23) (.tmp 25) rfl _ acc x rfl rfl HO3.out (Below.refl _ _) hsz3 ?hl ?_; (case hl => (have := HL.out; omega)); intro v1 w8 ho hb hg hat; have HO8 := Aside0.mk ho; have HB8 := Aside0.mk (HB3.out.trans hb); clear ho hb hg hat)))
    go_roundw
    case rel => exact ⟨i + 1, _, by go_num, by omega, HO8, ⟨by rw [List.length_append, List.length_singleton]; have := HL.out; omega⟩, HE, HB8⟩
    case measure => simp [intOf]; omega
   | false =>
    have HA : Aside0 (setsGo l [] = ([], false)) := ⟨by rw [← HS.out, HD.out]; rfl⟩
    go_wp2_with (first | (go_at_call 32; refine (HSO.out _).mono ?_; rintro e w3 ⟨rfl, hb⟩; have HB3 := Aside0.mk (HBr.out.trans (hb.mono HBr.out.size)); clear hb))
    go_ret2
    exact ⟨_, by rw [HA.out]; rfl, by rw [HA.out]; exact OwnI.nil _ _, HB1.out.trans (HB3.out.mono HB1.out.size)⟩
  ·have hltI : ¬ (i : Int) < (l.length : Int) := by omega
   have HA : Aside0 (setsGo l [] = (acc, true)) := ⟨by rw [← HS.out, List.drop_of_length_le (by omega)]; rfl⟩
   go_wp2
   go_ret2
   exact ⟨_, by rw [HA.out]; rfl, by rw [HA.out]; exact HO.out.lower HB1.out.size, HB1.out.trans (HBr.out.mono HB1.out.size)⟩
theorem xor_and_zero (a b : Nat) : (a ^^^ (a &&& b) = 0) ↔ (a &&& b = a) := by
 constructor
 ·intro h
  have h2 := congrArg (a ^^^ ·) h
  simpa [← Nat.xor_assoc] using h2
 ·intro h; rw [h]; simp
theorem isInC (a b : Nat) (ha : a < 64) (hb : b < 64) (w : World) :
  Calls Tryd.prog 37 #[.int .i64 a, .int .i64 b] w fun e w' => e = .returned (.bool (decide (a &&& b = a))) ∧ Below w.heap.size w w' := by
 have hx := andNot_i64 a b (by omega) (by omega)
 have HX : Aside0 ((((a ^^^ (a &&& b) : Nat) : Int) == 0) = decide (a &&& b = a)) := ⟨by
  rw [Bool.eq_iff_iff, beq_iff_eq, decide_eq_true_eq, ← xor_and_zero]; omega⟩
 go_enter Tryd.func37, Tryd.ntmps37
 go_wp2
 go_ret
 exact ⟨by rw [← HX.out]; rfl, by (repeat (first | (with_reducible exact Below.refl _ _) | (with_reducible assumption) | (with_reducible refine below_step ?_ (by assumption)) | (with_reducible apply below_alloc) | (with_reducible apply below_drewN)))⟩
set_option maxHeartbeats 1000000 in
theorem madeBy11 (w : World) (bg : Nat) (g : Nat) (hg : g < 64) (h0 : w.cell? ⟨bg, 0, none⟩ = some (.int .i64 g)) :
  PredI w (.func (.func 36) #[] #[.pointer (some ⟨bg, 0, none⟩)]) (fun s => decide (g &&& s.toNat = g)) (fun s => ∃ z : Nat, s = z ∧ z < 64) := by
 refine ⟨_, _, _, rfl, Enters.mk' Tryd.func36 rfl rfl, fun w1 x hb hx => ?_⟩
 obtain ⟨z, rfl, hz⟩ := hx
 have c0 := pw_cell_below hb h0
 clear hb h0
 simp only [Int.toNat_natCast]
 show Calls _ _ #[_, _] _ _
 go_enter Tryd.func36, Tryd.ntmps36
 go_wp2_with (first | (go_at_call 37; refine (isInC g z hg hz _).mono ?_; rintro e w2 ⟨rfl, hb⟩))
 go_ret
 exact ⟨rfl, hb⟩
set_option maxRecDepth 100000 in
set_option maxHeartbeats 1000000 in
theorem madeBy1 (w : World) (bs : Nat) (m : Nat) (hm : m ≤ 6) (u : Value) (ss : List Int) (hu : ReadI w u ss) (hs : ∀ s ∈ ss, ∃ z : Nat, s = z ∧ z < 64) (h0 : w.cell? ⟨bs, 0, none⟩ = some u) :
  PredI w (.func (.func 34) #[] #[.pointer (some ⟨bs, 0, none⟩)]) (madeAt ss) (fun g => 1 ≤ g ∧ g < ((2 ^ m : Nat) : Int)) := by
 refine ⟨_, _, _, rfl, Enters.mk' Tryd.func34 rfl rfl, fun w1 x hb hx => ?_⟩
 obtain ⟨g, rfl⟩ : ∃ g : Nat, x = g := ⟨x.toNat, by omega⟩
 have hg : g < 64 := by have := pw6 hm; omega
 obtain ⟨w2, hw2⟩ : ∃ w2, w2 = w1.alloc (.cells #[.int .i64 g] 2) := ⟨_, rfl⟩
 have hb2 : Below w1.heap.size w1 w2 := by rw [hw2]; exact Below.alloc (Below.refl _ _) (Nat.le_refl _) _
 have hb02 := hb.trans (hb2.mono hb.size)
 have c0 := pw_cell_below hb h0
 have c3 : w2.cell? ⟨w1.heap.size, 0, none⟩ = some (.int .i64 g) := by rw [hw2]; simp
 have HP := Aside0.mk (madeBy11 w2 w1.heap.size g hg c3)
 have HU := Aside0.mk (hu.below hb02)
 have HS := Aside0.mk hs
 have HB2 := Aside0.mk hb2
 have HI : Aside0 (madeAt ss g = ss.any (fun s => decide (g &&& s.toNat = g))) := ⟨rfl⟩
 have c0b : (w1.alloc (.cells #[.int .i64 g] 2)).cell? ⟨bs, 0, none⟩ = some u := by rw [← hw2]; exact pw_cell_below hb2 c0
 obtain ⟨A1, d1, rfl, -⟩ := id hu
 clear hb h0 hu hx hb2 hb02 c3 hs
 show Calls _ _ #[_, _] _ _
 go_enter Tryd.func34, Tryd.ntmps34
 go_wp2_with (first | (go_at_call 35; rw [← hw2]; clear hw2 c0b; refine (containsFunc _ ss _ _ _ _ HU.out HP.out HS.out).mono ?_; rintro e w3 ⟨rfl, hb3⟩; rw [← HI.out]))
 go_ret
 exact ⟨rfl, HB2.out.trans (hb3.mono HB2.out.size)⟩
set_option maxRecDepth 100000 in
set_option maxHeartbeats 1000000 in
theorem madeBy (n : Nat) (hn : n ≤ 6) (v : Value) (ss : List Int) (w : World) (hv : ReadI w v ss) (hs : ∀ s ∈ ss, ∃ z : Nat, s = z ∧ z < 64) :
  Calls Tryd.prog 21 #[.int .i64 n, v] w fun e w' => ∃ u, e = .returned (.agg #[.int .i64 n, u]) ∧ OwnI w.heap.size w' u (thL (madeAt ss) (2 ^ n)) ∧ Below w.heap.size w w' := by
 obtain ⟨wa, hwa⟩ : ∃ wa, wa = w.alloc (.cells #[v] 22) := ⟨_, rfl⟩
 obtain ⟨w0, hw0⟩ : ∃ w0, w0 = wa.alloc (.cells #[.int .i64 0, .slice none 0 0] 24) := ⟨_, rfl⟩
 have hsa : wa.heap.size = w.heap.size + 1 := by rw [hwa]; simp
 have hBa : Below w.heap.size w wa := by rw [hwa]; exact Below.alloc (Below.refl _ _) (Nat.le_refl _) _
 have hB0 : Below wa.heap.size wa w0 := by rw [hw0]; exact Below.alloc (Below.refl _ _) (Nat.le_refl _) _
 have hs0 : w0.heap.size = w.heap.size + 1 + 1 := by rw [hw0]; simp [hsa]
 have hB : Below w.heap.size w w0 := hBa.trans (hB0.mono hBa.size)
 have c0 : w0.cell? ⟨w.heap.size, 0, none⟩ = some v := pw_cell_below hB0 (by rw [hwa]; simp)
 have hb : w0.heap[w.heap.size + 1]? = some (.cells #[.int .i64 0, .slice none 0 0] 24) := by rw [hw0, ← hsa]; exact blk_new _ _
 have HP := Aside0.mk (madeBy1 w0 w.heap.size n hn v ss (hv.below hB) hs c0)
 have HB := Aside0.mk hB
 have HK := Aside0.mk hb
 have HS := Aside0.mk hs0
 obtain ⟨A1, d1, rfl, -⟩ := id hv
 clear hv hs hB hBa hB0 hsa hs0 hb
 subst hwa
 go_enter Tryd.func21, Tryd.ntmps21
 go_wp2_with (first | (go_at_call 33; rw [← hw0]; clear hw0; refine (those n hn _ _ _ HP.out).mono ?_; rintro e w2 ⟨u, rfl, ho, hb2⟩; obtain ⟨A2, d2, rfl, -⟩ := ho.read; have HO := Aside0.mk ho; have HB2 := Aside0.mk hb2; have HK2 := Aside0.mk (blk_below HK.out hb2); have c60 : w2.cell? ⟨w.heap.size + 1, 0, none⟩ = some (.int .i64 0) := blk_cell HK2.out 0; have c61 : w2.cell? ⟨w.heap.size + 1, 1, none⟩ = some (.slice none 0 0) := blk_cell HK2.out 1; have f60 : w2.frozen? ⟨w.heap.size + 1, 0, none⟩ = false := blk_frozen HK2.out 0; have f61 : w2.frozen? ⟨w.heap.size + 1, 1, none⟩ = false := blk_frozen HK2.out 1; clear ho hb2))
 refine bodyPost_ret (results_cell_row rfl _ _ (w.heap.size + 1) 24 #[.int .i64 n, .slice A2 (thL (madeAt ss) (2 ^ n)).length d2] (0, 0) _ rfl (by refine blk_put (cs := #[.int .i64 n, .slice none 0 0]) ?_ 1 _ rfl; refine blk_put (cs := #[.int .i64 0, .slice none 0 0]) ?_ 0 _ rfl; exact HK2.out) Tryd.underlying24 rfl (by kernel_rfl)) rfl ?_
 have hb := HB.out.trans (HB2.out.mono HB.out.size)
 refine ⟨_, rfl, ?_, (hb.setCell (by simp) _).setCell (by simp) _⟩
 have hs := HS.out
 have hbs := HO.out.base
 have ho := HO.out.lower (b' := w.heap.size) (by omega)
 exact (ho.grown (set_grown' _ (w.heap.size + 1) _ _) (fun j hj e => by have := hbs _ hj; cases e; omega)).grown (set_grown' _ (w.heap.size + 1) _ _) (fun j hj e => by have := hbs _ hj; cases e; omega)
/-- the cells of pairs -/
def flat : List (Int × Int) → List Int
 | [] => []
 | p :: r => p.1 :: p.2 :: flat r
theorem flat_len : ∀ ps : List (Int × Int), (flat ps).length = ps.length * 2
 | [] => rfl
 | p :: r => by simp only [flat, List.length_cons, flat_len r]; omega
theorem flat_get : ∀ (ps : List (Int × Int)) (i : Nat) (p : Int × Int), ps[i]? = some p → (flat ps)[i * 2]? = some p.1 ∧ (flat ps)[i * 2 + 1]? = some p.2
 | [], i, p, h => by simp at h
 | q :: r, 0, p, h => by simp at h; subst h; simp [flat]
 | q :: r, i + 1, p, h => by
  have := flat_get r i p (by simpa using h)
  rw [show (i + 1) * 2 = i * 2 + 1 + 1 by omega]
  simp only [flat, List.getElem?_cons_succ]
  exact this
/-- v is a slice that reads these pairs -/
def ReadP (w : World) (v : Value) (ps : List (Int × Int)) : Prop := ∃ A c, v = .slice A ps.length c ∧ ps.length ≤ 9223372036854775807 ∧ (0 < ps.length → ∃ g, A = some ⟨g, 0, none⟩ ∧ ∀ j x, (flat ps)[j]? = some x → w.cell? ⟨g, j, none⟩ = some (.int .i64 x))
/-- v is a slice of pairs of the call's own -/
def OwnP (b : Nat) (w : World) (v : Value) (ps : List (Int × Int)) : Prop := w.ownsRow b 49 2 v ps.length ((flat ps).map (Value.int .i64))
theorem ReadP.below {w w' : World} {v : Value} {ps : List (Int × Int)} (h : ReadP w v ps) (hb : Below w.heap.size w w') : ReadP w' v ps := by
 obtain ⟨A, c, rfl, hl, hr⟩ := h
 refine ⟨A, c, rfl, hl, fun h0 => ?_⟩
 obtain ⟨ad, e, hc⟩ := hr h0
 exact ⟨ad, e, fun j x hj => pw_cell_below hb (hc j x hj)⟩
theorem ReadP.nil (w : World) : ReadP w (.slice none 0 0) [] := ⟨none, 0, rfl, by decide, fun h => absurd h (by decide)⟩
theorem ReadP.get {w : World} {A : Option Addr} {c : Nat} {ps : List (Int × Int)} (h : ReadP w (.slice A ps.length c) ps) {i : Nat} (hi : i < ps.length) :
  ∃ g x y, A = some ⟨g, 0, none⟩ ∧ ps[i]? = some (x, y) ∧ w.cell? ⟨g, i * 2, none⟩ = some (.int .i64 x) ∧ w.cell? ⟨g, i * 2 + 1, none⟩ = some (.int .i64 y) := by
 obtain ⟨A', c', e, _, hr⟩ := h
 cases e
 obtain ⟨ad, rfl, hc⟩ := hr (by omega)
 have h1 := List.getElem?_eq_getElem hi
 obtain ⟨h2, h3⟩ := flat_get ps i _ h1
 exact ⟨ad, ps[i].1, ps[i].2, rfl, h1, hc _ _ h2, hc _ _ h3⟩
theorem OwnP.read {b : Nat} {w : World} {v : Value} {ps : List (Int × Int)} (h : OwnP b w v ps) : ReadP w v ps := by
 rcases h.2 with ⟨rfl, h0⟩ | ⟨g, cap, cur, rfl, hb, hg, hnc, hcm, hcs, ht⟩
 ·obtain rfl : ps = [] := List.eq_nil_of_length_eq_zero h0
  exact ReadP.nil w
 ·refine ⟨_, _, rfl, by simp only [maxLen] at hcm; omega, fun _ => ⟨_, rfl, fun j x hj => ?_⟩⟩
  have hc := World.ownsRow.cells h (g := g) rfl j (.int .i64 x) (by rw [List.getElem?_map, hj]; rfl)
  rwa [add_plain] at hc
theorem OwnP.below {b : Nat} {w w' : World} {v : Value} {ps : List (Int × Int)} (h : OwnP b w v ps) (hb : Below w.heap.size w w') : OwnP b w' v ps := own_move h (fun k hk => hb.block k (own_lt h k hk))
theorem OwnP.lower {b b' : Nat} {w : World} {v : Value} {ps : List (Int × Int)} (h : OwnP b w v ps) (hb : b' ≤ b) : OwnP b' w v ps := own_weaken h hb
theorem OwnP.nil (b : Nat) (w : World) : OwnP b w (.slice none 0 0) [] := own_nil _ _ _ _
theorem OwnP.empty {b : Nat} (w : World) (hb : b ≤ w.heap.size) : OwnP b (w.alloc (.cells #[] 49)) (.slice (some ⟨w.heap.size, 0, none⟩) 0 0) [] := ⟨rfl, .inr ⟨w.heap.size, 0, #[], rfl, hb, heap_alloc_new w _, Nat.le_refl _, by decide, rfl, rfl⟩⟩
theorem OwnP.base {b : Nat} {w : World} {v : Value} {ps : List (Int × Int)} (h : OwnP b w v ps) : ∀ k, v.ownBlock = some k → b ≤ k := fun k hk => own_base h k hk
theorem OwnP.lt {b : Nat} {w : World} {v : Value} {ps : List (Int × Int)} (h : OwnP b w v ps) : ∀ k, v.ownBlock = some k → k < w.heap.size := fun k hk => own_lt h k hk
theorem OwnP.grown {b : Nat} {w w' : World} {v : Value} {ps : List (Int × Int)} (h : OwnP b w v ps) {row : Option Nat} (hg : w.grownBy w' row) (hn : ∀ k, v.ownBlock = some k → some k ≠ row) : OwnP b w' v ps := own_move h (fun k hk => hg.block k (own_lt h k hk) (hn k hk))
set_option maxHeartbeats 1000000 in
theorem eqPair (x y x' y' : Int) (w : World) : Calls Tryd.prog 23 #[.agg #[.int .i64 x, .int .i64 y], .agg #[.int .i64 x', .int .i64 y']] w fun e w' => e = .returned (.bool ((x == x') && (y == y'))) ∧ Below w.heap.size w w' := by
 obtain ⟨w1, hw1⟩ : ∃ w1, w1 = (w.alloc (.cells #[.int .i64 x, .int .i64 y] 49)).alloc (.cells #[.int .i64 x', .int .i64 y'] 49) := ⟨_, rfl⟩
 have hB : Below w.heap.size w w1 := by rw [hw1]; exact ((Below.refl _ w).alloc (Nat.le_refl _) _).alloc (by simp) _
 have c0 : w1.cell? ⟨w.heap.size, 0, none⟩ = some (.int .i64 x) := by rw [hw1]; simp
 have c1 : w1.cell? ⟨w.heap.size, 1, none⟩ = some (.int .i64 y) := by rw [hw1]; simp
 have c2 : w1.cell? ⟨w.heap.size + 1, 0, none⟩ = some (.int .i64 x') := by rw [hw1]; simp
 have c3 : w1.cell? ⟨w.heap.size + 1, 1, none⟩ = some (.int .i64 y') := by rw [hw1]; simp
 have HB := Aside0.mk hB
 clear hB
 go_enter Tryd.func23, Tryd.ntmps23
 go_wp2
 rw [← hw1]
 clear hw1
 go_loopw [5] (fun s wr => ∃ i : Nat, s = .int .i64 i ∧ i ≤ 2 ∧ Aside0 (0 < i → (x == x') = true) ∧ Aside0 (1 < i → (y == y') = true) ∧ Aside0 (Below w1.heap.size w1 wr)) (fun s _ => 2 - (intOf s).toNat)
 case atStart => exact ⟨0, rfl, by decide, ⟨fun h => absurd h (by decide)⟩, ⟨fun h => absurd h (by decide)⟩, ⟨Below.refl _ _⟩⟩
 case round =>
  obtain ⟨i, rfl, hi, H0, H1, HBw⟩ := hrel
  have c0 := pw_cell_below HBw.out c0
  have c1 := pw_cell_below HBw.out c1
  have c2 := pw_cell_below HBw.out c2
  have c3 := pw_cell_below HBw.out c3
  have x0 : ∀ z : Ext wr, z.1.cell? ⟨w.heap.size, 0, none⟩ = some (.int .i64 x) := fun z => Ext.cell c0 z
  have x1 : ∀ z : Ext wr, z.1.cell? ⟨w.heap.size, 1, none⟩ = some (.int .i64 y) := fun z => Ext.cell c1 z
  have x2 : ∀ z : Ext wr, z.1.cell? ⟨w.heap.size + 1, 0, none⟩ = some (.int .i64 x') := fun z => Ext.cell c2 z
  have x3 : ∀ z : Ext wr, z.1.cell? ⟨w.heap.size + 1, 1, none⟩ = some (.int .i64 y') := fun z => Ext.cell c3 z
  rcases (by omega : i = 0 ∨ i = 1 ∨ i = 2) with rfl | rfl | rfl
  ·cases hq : (x == x') with
   | true =>
    have hq' : (x != x') = false := by rw [bne, hq]; rfl
    go_wp2
    refine wp_region_ext (by kernel_rfl) (by kernel_rfl) ?_
    repeat (go_big_quiet_step (fail))
    refine wpQuiet_nil ?_
    rintro _ ⟨z, rfl⟩
    have hbz := z.2
    go_wp2
    go_roundw
    case rel => exact ⟨1, by go_num, by decide, ⟨fun _ => by first | exact hq | trivial⟩, ⟨fun h => absurd h (by decide)⟩, ⟨HBw.out.trans (hbz.mono HBw.out.size)⟩⟩
    case measure => simp [intOf]
   | false =>
    have hq' : (x != x') = true := by rw [bne, hq]; rfl
    go_wp2
    refine wp_region_ext (by kernel_rfl) (by kernel_rfl) ?_
    repeat (go_big_quiet_step (fail))
    refine wpQuiet_nil ?_
    rintro _ ⟨z, rfl⟩
    have hbz := z.2
    go_wp2
    go_ret
    exact ⟨by rw [hq]; rfl, HB.out.trans ((HBw.out.trans (hbz.mono HBw.out.size)).mono HB.out.size)⟩
  ·have h0 := H0.out (by decide)
   cases hq : (y == y') with
   | true =>
    have hq' : (y != y') = false := by rw [bne, hq]; rfl
    go_wp2
    refine wp_region_ext (by kernel_rfl) (by kernel_rfl) ?_
    repeat (go_big_quiet_step (fail))
    refine wpQuiet_nil ?_
    rintro _ ⟨z, rfl⟩
    have hbz := z.2
    go_wp2
    go_roundw
    case rel => exact ⟨2, by go_num, by decide, ⟨fun _ => h0⟩, ⟨fun _ => by first | exact hq | trivial⟩, ⟨HBw.out.trans (hbz.mono HBw.out.size)⟩⟩
    case measure => simp [intOf]
   | false =>
    have hq' : (y != y') = true := by rw [bne, hq]; rfl
    go_wp2
    refine wp_region_ext (by kernel_rfl) (by kernel_rfl) ?_
    repeat (go_big_quiet_step (fail))
    refine wpQuiet_nil ?_
    rintro _ ⟨z, rfl⟩
    have hbz := z.2
    go_wp2
    go_ret
    exact ⟨by rw [hq, Bool.and_false]; rfl, HB.out.trans ((HBw.out.trans (hbz.mono HBw.out.size)).mono HB.out.size)⟩
  ·have h0 := H0.out (by decide)
   have h1 := H1.out (by decide)
   go_wp2
   go_ret
   exact ⟨by rw [h0, h1]; rfl, HB.out.trans (HBw.out.mono HB.out.size)⟩
/-- what lay below a block that is turned -/
theorem below_grown {B b : Nat} {w w' : World} (hg : w.grownBy w' (some b)) (h1 : B ≤ b) (h2 : B ≤ w.heap.size) : Below B w w' :=
 ⟨hg.os, hg.tape, hg.output, hg.size, fun k hk => hg.block k (by omega) (fun e => by injection e; omega)⟩
def circleS : ByteArray := { data := #[48, 49, 44, 48, 50, 44, 49, 50] }
theorem circle_split : Lib.splitB ⟨#[44]⟩ 0 (Lib.countB circleS ⟨#[44]⟩) circleS = circleP := by kernel_rfl
theorem circle_count : circleP.length = Lib.countB circleS ⟨#[44]⟩ + 1 := by kernel_rfl
theorem circle_go : setsGo circleP [] = ([3, 5, 6], true) := by kernel_rfl
set_option maxRecDepth 100000 in
set_option maxHeartbeats 2000000 in
theorem textCircle (w : World) : Calls Tryd.prog 19 #[.string circleT] w fun e w' => e = .returned (.tuple #[.int .i64 3, .string circleS]) ∧ Below w.heap.size w w' := by
 have h1 : (circleT.toList == ([112, 111, 105, 110, 116] : List UInt8)) = false := by kernel_rfl
 have h2 : (circleT.toList == ([99, 105, 114, 99, 108, 101] : List UInt8)) = true := by kernel_rfl
 go_enter Tryd.func19, Tryd.ntmps19
 go_wp2
 go_ret2
 exact ⟨rfl, Below.refl _ _⟩
set_option maxRecDepth 100000 in
set_option maxHeartbeats 4000000 in
theorem complexCircle (w : World) (hm : MaxL w) :
  Calls Tryd.prog 10 #[.string circleT] w fun e w' => ∃ z, e = .returned (.tuple #[.agg #[.int .i64 3, z], .int .i64 0]) ∧ OwnI w.heap.size w' z circleX ∧ Below w.heap.size w w' := by
 obtain ⟨w1, hw1⟩ : ∃ w1, w1 = w.alloc C0 := ⟨_, rfl⟩
 have hb1 : Below w.heap.size w w1 := by rw [hw1]; exact Below.alloc (Below.refl _ _) (Nat.le_refl _) _
 have HZ1 : Aside0 (w1.heap.size = w.heap.size + 1) := ⟨by rw [hw1]; simp⟩
 have HK1 : Aside0 (w1.heap[w.heap.size]? = some C0) := ⟨by rw [hw1]; exact blk_new w _⟩
 have HB1 := Aside0.mk hb1
 have HM1 := Aside0.mk (hm.below hb1)
 have HSO := Aside0.mk (fun W (h : MaxL W) => setsOf circleS W h (by decide) circleP circle_split circle_count (by decide) (fun t ht => by
  unfold circleP at ht
  simp only [List.mem_cons, List.not_mem_nil, or_false] at ht
  rcases ht with rfl | rfl | rfl <;> decide))
 rw [circle_go] at HSO
 have HT := Aside0.mk (fun W => textCircle W)
 obtain ⟨s, hs⟩ : ∃ s, s = circleT := ⟨_, rfl⟩
 rw [← hs] at HT ⊢
 obtain ⟨t, ht⟩ : ∃ t, t = circleS := ⟨_, rfl⟩
 rw [← ht] at HT HSO
 clear hb1 hm hs ht
 go_enter Tryd.func10, Tryd.ntmps10
 go_wp2_with (first | (go_at_call 19; rw [← hw1]; clear hw1; refine (HT.out _).mono ?_; rintro e w2 ⟨rfl, hb⟩; have HM2 := Aside0.mk (HM1.out.below hb); have HB2 := Aside0.mk hb; clear hb) | (go_at_call 20; go_must (refine (HSO.out _ HM2.out).mono ?_; rintro e w3 ⟨u, rfl, ho, hb⟩; obtain ⟨A3, d3, rfl, -⟩ := id ho.read; have HR3 := Aside0.mk ho.read; have HB3 := Aside0.mk (HB2.out.trans (hb.mono HB2.out.size)); clear ho hb)) | (go_at_call 21; refine Aside0.out ?_))
 refine Aside0.mk ?_
 refine (madeBy 3 (by decide) _ [3, 5, 6] w3 HR3.out (fun s hs => by simp only [List.mem_cons, List.not_mem_nil, or_false] at hs; rcases hs with rfl | rfl | rfl <;> first | exact ⟨3, rfl, by decide⟩ | exact ⟨5, rfl, by decide⟩ | exact ⟨6, rfl, by decide⟩)).mono ?_
 rw [show thL (madeAt [3, 5, 6]) (2 ^ 3) = circleX from circle_faces]
 rintro e w4 ⟨u, rfl, ho, hb⟩
 obtain ⟨A4, d4, rfl, -⟩ := id ho.read
 have HB4 := Aside0.mk (HB3.out.trans (hb.mono HB3.out.size))
 have HO4 := Aside0.mk (ho.lower (b' := w1.heap.size) HB3.out.size)
 have HK4 : Aside0 (w4.heap[w.heap.size]? = some C0) := ⟨by rw [HB4.out.block _ (by have := HZ1.out; omega)]; exact HK1.out⟩
 have c00 : w4.cell? ⟨w.heap.size, 0, none⟩ = some (.int .i64 0) := blk_cell HK4.out 0
 have c01 : w4.cell? ⟨w.heap.size, 1, none⟩ = some (.slice none 0 0) := blk_cell HK4.out 1
 have f00 : w4.frozen? ⟨w.heap.size, 0, none⟩ = false := blk_frozen HK4.out 0
 have f01 : w4.frozen? ⟨w.heap.size, 1, none⟩ = false := blk_frozen HK4.out 1
 clear ho hb
 go_wp2
 refine bodyPost_ret (results_ct rfl _ _ w.heap.size 24 #[.int .i64 3, .slice A4 circleX.length d4] (0, 0) _ rfl (by refine blk_put (cs := #[.int .i64 3, .slice none 0 0]) ?_ 1 _ rfl; refine blk_put (cs := #[.int .i64 0, .slice none 0 0]) ?_ 0 _ rfl; exact HK4.out) Tryd.underlying24 rfl (by kernel_rfl)) rfl ?_
 have hg : w4.grownBy ((w4.setCell ⟨w.heap.size, 0, none⟩ (.int .i64 3)).setCell ⟨w.heap.size, 1, none⟩ (.slice A4 circleX.length d4)) (some w.heap.size) := grown_trans (set_grown' _ w.heap.size _ _) (set_grown' _ w.heap.size _ _)
 have hz := HZ1.out
 exact ⟨_, rfl, (HO4.out.grown hg (fun k hk e => by have := HO4.out.base k hk; have := Option.some.inj e; omega)).lower (by omega), (HB1.out.trans (HB4.out.mono HB1.out.size)).trans (below_grown hg (Nat.le_refl _) (Nat.le_of_lt (blk_lt HK4.out)))⟩
abbrev D0 : Obj := .cells #[.int .i64 0, .slice none 0 0, .slice none 0 0] 27
theorem grown_desk {w : World} {k : Nat} (a : Int) (z p : Value) : w.grownBy (((w.setCell ⟨k, 0, none⟩ (.int .i64 a)).setCell ⟨k, 1, none⟩ z).setCell ⟨k, 2, none⟩ p) (some k) := grown_trans (grown_trans (set_grown' _ k _ _) (set_grown' _ k _ _)) (set_grown' _ k _ _)
theorem put_desk {w : World} {k : Nat} (h : w.heap[k]? = some D0) (a : Int) (z p : Value) : (((w.setCell ⟨k, 0, none⟩ (.int .i64 a)).setCell ⟨k, 1, none⟩ z).setCell ⟨k, 2, none⟩ p).heap[k]? = some (.cells #[.int .i64 a, z, p] 27) := by
 refine blk_put (cs := #[.int .i64 a, z, .slice none 0 0]) ?_ 2 _ rfl
 refine blk_put (cs := #[.int .i64 a, .slice none 0 0, .slice none 0 0]) ?_ 1 _ rfl
 refine blk_put (cs := #[.int .i64 0, .slice none 0 0, .slice none 0 0]) ?_ 0 _ rfl
 exact h
set_option maxRecDepth 100000 in
set_option maxHeartbeats 4000000 in
theorem implNewDesk (w : World) (hm : MaxL w) :
  Calls Tryd.prog 5 #[] w fun e w' => ∃ z, e = .returned (.agg #[.int .i64 3, z, .slice none 0 0]) ∧ OwnI w.heap.size w' z circleX ∧ Below w.heap.size w w' := by
 obtain ⟨w1, hw1⟩ : ∃ w1, w1 = w.alloc D0 := ⟨_, rfl⟩
 have hb1 : Below w.heap.size w w1 := by rw [hw1]; exact Below.alloc (Below.refl _ _) (Nat.le_refl _) _
 have HZ1 : Aside0 (w1.heap.size = w.heap.size + 1) := ⟨by rw [hw1]; simp⟩
 have HK1 : Aside0 (w1.heap[w.heap.size]? = some D0) := ⟨by rw [hw1]; exact blk_new w _⟩
 have HB1 := Aside0.mk hb1
 have HCC := Aside0.mk (complexCircle w1 (hm.below hb1))
 clear hb1 hm
 go_enter Tryd.func5, Tryd.ntmps5
 go_upto_region 2 with (first | (go_at_call 10; rw [← hw1]; clear hw1; refine HCC.out.mono ?_; rintro e w2 ⟨z, rfl, ho, hb⟩; obtain ⟨A2, d2, rfl, -⟩ := id ho.read; have HO2 := Aside0.mk ho; have HB2 := Aside0.mk hb; have HK2 : Aside0 (w2.heap[w.heap.size]? = some D0) := (⟨by rw [hb.block _ (by have := HZ1.out; omega)]; exact HK1.out⟩); clear ho hb))
 obtain ⟨w3, hw3⟩ : ∃ w3, w3 = w2.alloc (.cells #[.int .i64 3, .slice A2 circleX.length d2] 24) := ⟨_, rfl⟩
 rw [← hw3]
 have hb3 : Below w2.heap.size w2 w3 := by rw [hw3]; exact Below.alloc (Below.refl _ _) (Nat.le_refl _) _
 have hk3 : w3.heap[w2.heap.size]? = some (.cells #[.int .i64 3, .slice A2 circleX.length d2] 24) := by rw [hw3]; exact heap_alloc_new w2 _
 clear hw3
 have d30 : w3.cell? ⟨w2.heap.size, 0, none⟩ = some (.int .i64 3) := blk_cell hk3 0
 have d31 : w3.cell? ⟨w2.heap.size, 1, none⟩ = some (.slice A2 circleX.length d2) := blk_cell hk3 1
 have HK3 : Aside0 (w3.heap[w.heap.size]? = some D0) := ⟨by rw [hb3.block _ (blk_lt HK2.out)]; exact HK2.out⟩
 have HB3 := Aside0.mk (HB2.out.trans (hb3.mono HB2.out.size))
 have HO3 := Aside0.mk (HO2.out.below hb3)
 have c00 : w3.cell? ⟨w.heap.size, 0, none⟩ = some (.int .i64 0) := blk_cell HK3.out 0
 have c01 : w3.cell? ⟨w.heap.size, 1, none⟩ = some (.slice none 0 0) := blk_cell HK3.out 1
 have c02 : w3.cell? ⟨w.heap.size, 2, none⟩ = some (.slice none 0 0) := blk_cell HK3.out 2
 have f00 : w3.frozen? ⟨w.heap.size, 0, none⟩ = false := blk_frozen HK3.out 0
 have f01 : w3.frozen? ⟨w.heap.size, 1, none⟩ = false := blk_frozen HK3.out 1
 have f02 : w3.frozen? ⟨w.heap.size, 2, none⟩ = false := blk_frozen HK3.out 2
 clear hk3 hb3
 go_wp2
 refine bodyPost_ret (results_cell_row rfl _ _ w.heap.size 27 #[.int .i64 3, .slice A2 circleX.length d2, .slice none 0 0] (0, 0) _ rfl (put_desk HK3.out _ _ _) Tryd.underlying27 rfl (by kernel_rfl)) rfl ?_
 have hg := grown_desk (w := w3) (k := w.heap.size) 3 (.slice A2 circleX.length d2) (.slice none 0 0)
 have hz := HZ1.out
 exact ⟨_, rfl, (HO3.out.grown hg (fun k hk e => by have := HO3.out.base k hk; have := Option.some.inj e; omega)).lower (by omega), (HB1.out.trans (HB3.out.mono HB1.out.size)).trans (below_grown hg (Nat.le_refl _) (Nat.le_of_lt (blk_lt HK3.out)))⟩
set_option maxRecDepth 100000 in
set_option maxHeartbeats 4000000 in
theorem freshIs (z : Value) (hz : ∃ A n c, z = .slice A n c) (w : World) :
  Calls Tryd.prog 18 #[.agg #[.int .i64 3, z]] w fun e w' => ∃ p, e = .returned (.agg #[.int .i64 3, z, p]) ∧ OwnP (w.heap.size + 2) w' p [] ∧ Below w.heap.size w w' := by
 obtain ⟨A2, n2, d2, rfl⟩ := hz
 go_enter Tryd.func18, Tryd.ntmps18
 go_wp2
 obtain ⟨wb, hwb⟩ : ∃ wb, wb = w.alloc (.cells #[.int .i64 3, .slice A2 n2 d2] 24) := ⟨_, rfl⟩
 have hsb : wb.heap.size = w.heap.size + 1 := by rw [hwb]; simp
 have hbb : Below w.heap.size w wb := by rw [hwb]; exact Below.alloc (Below.refl _ _) (Nat.le_refl _) _
 rw [← hwb]
 obtain ⟨wa, hwa⟩ : ∃ wa, wa = wb.alloc (.cells #[.int .i64 3, .slice A2 n2 d2, .slice (some ⟨w.heap.size + 1 + 1, 0, none⟩) 0 0] 27) := ⟨_, rfl⟩
 have hsa : wa.heap.size = w.heap.size + 1 + 1 := by rw [hwa]; simp [hsb]
 have hba : Below wb.heap.size wb wa := by rw [hwa]; exact Below.alloc (Below.refl _ _) (Nat.le_refl _) _
 have hka : wa.heap[w.heap.size + 1]? = some (.cells #[.int .i64 3, .slice A2 n2 d2, .slice (some ⟨w.heap.size + 1 + 1, 0, none⟩) 0 0] 27) := by
  have h := heap_alloc_new wb (.cells #[.int .i64 3, .slice A2 n2 d2, .slice (some ⟨w.heap.size + 1 + 1, 0, none⟩) 0 0] 27)
  rw [← hwa, hsb] at h
  exact h
 rw [← hwa]
 have hbz : Below wa.heap.size wa (wa.alloc (.cells #[] 49)) := Below.alloc (Below.refl _ _) (Nat.le_refl _) _
 have hp := OwnP.empty (b := w.heap.size + 2) wa (by omega)
 rw [hsa] at hp
 refine bodyPost_ret (results_cell_row rfl _ _ (w.heap.size + 1) 27 #[.int .i64 3, .slice A2 n2 d2, .slice (some ⟨w.heap.size + 1 + 1, 0, none⟩) 0 0] (0, 0) _ rfl (by rw [hbz.block _ (by omega)]; exact hka) Tryd.underlying27 rfl (by kernel_rfl)) rfl ?_
 exact ⟨_, rfl, hp, (hbb.trans (hba.mono (by omega))).trans (hbz.mono (by omega))⟩
set_option maxRecDepth 100000 in
set_option maxHeartbeats 4000000 in
theorem newIs (w : World) :
  Calls Tryd.prog 9 #[] w fun e w' => ∃ z p, e = .returned (.agg #[.int .i64 3, z, p]) ∧ OwnI w.heap.size w' z circleX ∧ OwnP w.heap.size w' p [] ∧ Below w.heap.size w w' := by
 obtain ⟨w1, hw1⟩ : ∃ w1, w1 = w.alloc D0 := ⟨_, rfl⟩
 have hb1 : Below w.heap.size w w1 := by rw [hw1]; exact Below.alloc (Below.refl _ _) (Nat.le_refl _) _
 have HZ1 : Aside0 (w1.heap.size = w.heap.size + 1) := ⟨by rw [hw1]; simp⟩
 have HK1 : Aside0 (w1.heap[w.heap.size]? = some D0) := ⟨by rw [hw1]; exact blk_new w _⟩
 have HB1 := Aside0.mk hb1
 have HCC := Aside0.mk (namedCircle w1)
 clear hb1
 go_enter Tryd.func9, Tryd.ntmps9
 go_upto_region 2 with (first | (go_at_call 17; rw [← hw1]; clear hw1; refine HCC.out.mono ?_; rintro e w2 ⟨z, rfl, ho, hb⟩; obtain ⟨A2, d2, rfl, -⟩ := id ho.read; have HO2 := Aside0.mk ho; have HB2 := Aside0.mk hb; have HK2 : Aside0 (w2.heap[w.heap.size]? = some D0) := (⟨by rw [hb.block _ (by have := HZ1.out; omega)]; exact HK1.out⟩); clear ho hb))
 obtain ⟨w5, hw5⟩ : ∃ w5, w5 = w2.alloc (.cells #[.int .i64 3, .slice A2 circleX.length d2] 24) := ⟨_, rfl⟩
 rw [← hw5]
 have hb5 : Below w2.heap.size w2 w5 := by rw [hw5]; exact Below.alloc (Below.refl _ _) (Nat.le_refl _) _
 have hk5 : w5.heap[w2.heap.size]? = some (.cells #[.int .i64 3, .slice A2 circleX.length d2] 24) := by rw [hw5]; exact heap_alloc_new w2 _
 clear hw5
 have d30 : w5.cell? ⟨w2.heap.size, 0, none⟩ = some (.int .i64 3) := blk_cell hk5 0
 have d31 : w5.cell? ⟨w2.heap.size, 1, none⟩ = some (.slice A2 circleX.length d2) := blk_cell hk5 1
 have HK5 : Aside0 (w5.heap[w.heap.size]? = some D0) := ⟨by rw [hb5.block _ (blk_lt HK2.out)]; exact HK2.out⟩
 have HB5 := Aside0.mk (HB2.out.trans (hb5.mono HB2.out.size))
 have HO5 := Aside0.mk (HO2.out.below hb5)
 clear hk5 hb5
 go_wp2_with (first | (go_at_call 18; go_must (refine (freshIs (.slice A2 circleX.length d2) ⟨_, _, _, rfl⟩ w5).mono ?_; rintro e w3 ⟨p, rfl, hp, hb⟩; obtain ⟨Ap, cp, rfl, -⟩ := id hp.read; have HP3 := Aside0.mk (hp.lower (b' := w1.heap.size) (by have := HB5.out.size; omega)); have HO3 := Aside0.mk (HO5.out.below hb); have HB3 := Aside0.mk (HB5.out.trans (hb.mono HB5.out.size)); have HK3 : Aside0 (w3.heap[w.heap.size]? = some D0) := (⟨by rw [hb.block _ (blk_lt HK5.out)]; exact HK5.out⟩); clear hp hb; have c00 : w3.cell? ⟨w.heap.size, 0, none⟩ = some (.int .i64 0) := blk_cell HK3.out 0; have f00 : w3.frozen? ⟨w.heap.size, 0, none⟩ = false := blk_frozen HK3.out 0; have c01 : w3.cell? ⟨w.heap.size, 1, none⟩ = some (.slice none 0 0) := blk_cell HK3.out 1; have f01 : w3.frozen? ⟨w.heap.size, 1, none⟩ = false := blk_frozen HK3.out 1; have c02 : w3.cell? ⟨w.heap.size, 2, none⟩ = some (.slice none 0 0) := blk_cell HK3.out 2; have f02 : w3.frozen? ⟨w.heap.size, 2, none⟩ = false := blk_frozen HK3.out 2)))
 refine bodyPost_ret (results_cell_row rfl _ _ w.heap.size 27 #[.int .i64 3, .slice A2 circleX.length d2, .slice Ap 0 cp] (0, 0) _ rfl (put_desk HK3.out _ _ _) Tryd.underlying27 rfl (by kernel_rfl)) rfl ?_
 have hg := grown_desk (w := w3) (k := w.heap.size) 3 (.slice A2 circleX.length d2) (.slice Ap 0 cp)
 have hz := HZ1.out
 exact ⟨_, _, rfl, (HO3.out.grown hg (fun k hk e => by have := HO3.out.base k hk; have := Option.some.inj e; omega)).lower (by omega), (HP3.out.grown hg (fun k hk e => by have := HP3.out.base k hk; have := Option.some.inj e; omega)).lower (by omega), (HB1.out.trans (HB3.out.mono HB1.out.size)).trans (below_grown hg (Nat.le_refl _) (Nat.le_of_lt (blk_lt HK3.out)))⟩
set_option maxRecDepth 100000 in
set_option maxHeartbeats 4000000 in
theorem specNewDesk (w : World) :
  Calls Tryd.prog 4 #[] w fun e w' => ∃ z p, e = .returned (.agg #[.int .i64 3, z, p]) ∧ OwnI w.heap.size w' z circleX ∧ OwnP w.heap.size w' p [] ∧ Below w.heap.size w w' := by
 obtain ⟨w1, hw1⟩ : ∃ w1, w1 = w.alloc D0 := ⟨_, rfl⟩
 have hb1 : Below w.heap.size w w1 := by rw [hw1]; exact Below.alloc (Below.refl _ _) (Nat.le_refl _) _
 have HZ1 : Aside0 (w1.heap.size = w.heap.size + 1) := ⟨by rw [hw1]; simp⟩
 have HK1 : Aside0 (w1.heap[w.heap.size]? = some D0) := ⟨by rw [hw1]; exact blk_new w _⟩
 have HB1 := Aside0.mk hb1
 have HCC := Aside0.mk (newIs w1)
 clear hb1
 go_enter Tryd.func4, Tryd.ntmps4
 go_wp2_with (first | (go_at_call 9; go_must (rw [← hw1]; clear hw1; refine HCC.out.mono ?_; rintro e w3 ⟨z, p, rfl, ho, hp, hb⟩; obtain ⟨A2, d2, rfl, -⟩ := id ho.read; obtain ⟨Ap, cp, rfl, -⟩ := id hp.read; have HO3 := Aside0.mk ho; have HP3 := Aside0.mk hp; have HB3 := Aside0.mk hb; have HK3 : Aside0 (w3.heap[w.heap.size]? = some D0) := (⟨by rw [hb.block _ (by have := HZ1.out; omega)]; exact HK1.out⟩); clear ho hp hb; have c00 : w3.cell? ⟨w.heap.size, 0, none⟩ = some (.int .i64 0) := blk_cell HK3.out 0; have f00 : w3.frozen? ⟨w.heap.size, 0, none⟩ = false := blk_frozen HK3.out 0; have c01 : w3.cell? ⟨w.heap.size, 1, none⟩ = some (.slice none 0 0) := blk_cell HK3.out 1; have f01 : w3.frozen? ⟨w.heap.size, 1, none⟩ = false := blk_frozen HK3.out 1; have c02 : w3.cell? ⟨w.heap.size, 2, none⟩ = some (.slice none 0 0) := blk_cell HK3.out 2; have f02 : w3.frozen? ⟨w.heap.size, 2, none⟩ = false := blk_frozen HK3.out 2)))
 refine bodyPost_ret (results_cell_row rfl _ _ w.heap.size 27 #[.int .i64 3, .slice A2 circleX.length d2, .slice Ap 0 cp] (0, 0) _ rfl (put_desk HK3.out _ _ _) Tryd.underlying27 rfl (by kernel_rfl)) rfl ?_
 have hg := grown_desk (w := w3) (k := w.heap.size) 3 (.slice A2 circleX.length d2) (.slice Ap 0 cp)
 have hz := HZ1.out
 exact ⟨_, _, rfl, (HO3.out.grown hg (fun k hk e => by have := HO3.out.base k hk; have := Option.some.inj e; omega)).lower (by omega), (HP3.out.grown hg (fun k hk e => by have := HP3.out.base k hk; have := Option.some.inj e; omega)).lower (by omega), (HB1.out.trans (HB3.out.mono HB1.out.size)).trans (below_grown hg (Nat.le_refl _) (Nat.le_of_lt (blk_lt HK3.out)))⟩
end Go.Proofs.YtomofijniefelaaDoor.H
