/- FixedFaces of the program and of the reference. -/
import Derived.Test.YtllmbbaffhpheaaSCode
import Derived.Test.YtllmbbaffhpheaaPart
namespace Go.Proofs.Ytllmbbaffhpheaa.H
open Go.RowKit Go.Proofs.YtllmbbaffhpheaaW.PrintWords Go.Proofs.YtllmbbaffhpheaaW.PrintLast Go.Proofs.YtllmbbaffhpheaaW.PrintMore
set_option linter.unusedVariables false
set_option linter.unusedSimpArgs false

theorem codeSimp_zero' {a b : Int} {xs ys : List Int} {fs : List (List Int)} {r : Bool} (h : codeSimp a b xs ys fs r = 0) : ∃ n m : Nat, a = n ∧ b = m ∧ Cx n xs ∧ Cx m ys ∧ (∀ f ∈ fs, Mp n m f) ∧ (∀ f ∈ fs, simpOk xs ys f = true) ∧ r = true := by
  by_cases h0 : codeMap a b xs ys fs r = 0
  · obtain ⟨n, m, rfl, rfl, h1, h2, h3, h4, h5⟩ := codeMap_zero h0
    refine ⟨n, m, rfl, rfl, h1, h2, h3, ?_, h4⟩
    rw [h5] at h
    split at h
    · next h6 => exact List.all_eq_true.1 h6
    · cases h
  · rw [codeSimp_map h0] at h
    exact absurd h h0
theorem ReadS.one' {W : World} {u : Value} {p : List Int} (h : ReadI W u p) : ReadS (W.alloc (.cells #[u] 22)) (.slice (some ⟨W.heap.size, 0, none⟩) 1 1) [p] := by
  refine ⟨_, 1, rfl, by simp, fun i xs hi => ?_⟩
  cases i with
  | zero =>
    simp at hi
    subst hi
    exact ⟨_, u, rfl, by rw [add_mk]; exact blk_cell (blk_new W _) 0, h.below (Below.alloc (Below.refl _ _) (Nat.le_refl _) _)⟩
  | succ i => simp at hi
/-- the faces of a complex that is a value -/
theorem field_faces (a : Int) (A : Option Addr) (l c : Nat) (w : World) : (Instr.field 28 (.agg #[.int .i64 a, .slice A l c]) 1).run Try.prog w = .ok (.slice A l c) w := by kernel_rfl
/-- its own image -/
def fixAt (f : List Int) (x : Int) : Bool := ((img x.toNat f : Nat) : Int) == x
/-- what FixedFaces answers -/
def ansFixedFaces (a : Int) (xs f : List Int) : List Int × Int :=
  if codeSimp a a xs xs [f] true = 0 then (xs.filter (fixAt f), 0) else ([], codeSimp a a xs xs [f] true)
theorem cx_dom {n m : Nat} {xs f : List Int} (hc : Cx n xs) (hf : Mp n m f) {x : Int} (hx : x ∈ xs) : ∃ z : Nat, x = z ∧ z < 2 ^ f.length ∧ z ≤ 63 := by
  obtain ⟨z, rfl, _, h2⟩ := hc.lt hx
  exact ⟨z, rfl, by rw [hf.len]; exact h2, by have := pw6 hc.hi; omega⟩

set_option maxHeartbeats 1000000 in
theorem fixed1 (w : World) (bf : Nat) (n : Nat) (u : Value) (xs f : List Int) (hu : ReadI w u f) (hc : Cx n xs) (hf : Mp n n f) (h0 : w.cell? ⟨bf, 0, none⟩ = some u) :
    PredI w (.func (.func 80) #[] #[.pointer (some ⟨bf, 0, none⟩)]) (fixAt f) (fun x => x ∈ xs) := by
  refine ⟨_, _, _, rfl, Enters.mk' Try.func80 rfl rfl, fun w1 x hb hx => ?_⟩
  obtain ⟨z, rfl, hz, -⟩ := cx_dom hc hf hx
  have c0 := pw_cell_below hb h0
  have HU := Aside0.mk (hu.below hb)
  have hlf : f.length ≤ 6 := by rw [hf.len]; exact hc.hi
  have HI := Aside0.mk (imageOf z u f w1 HU.out hlf hz (hf.bd5 hc.hi))
  obtain ⟨A1, d1, rfl, -⟩ := id hu
  clear hb h0 hx hu hc hf hz hlf HU
  show Calls _ _ #[_, _] _ _
  go_enter Try.func80, Try.ntmps80
  go_wp2_with (first | (go_at_call 60; refine HI.out.mono ?_; rintro e w2 ⟨rfl, hb2⟩))
  go_ret
  exact ⟨rfl, hb2⟩

set_option maxRecDepth 100000 in
set_option maxHeartbeats 1000000 in
theorem implFixedFaces (a : Int) (ku : Value) (xs : List Int) (v : Value) (f : List Int) (w : World) (hk : ReadI w ku xs) (hv : ReadI w v f) :
    Calls Try.prog 40 #[cx a ku, v] w fun e w' => ∃ u, e = .returned (.tuple #[u, .int .i64 (ansFixedFaces a xs f).2]) ∧ OwnI w.heap.size w' u (ansFixedFaces a xs f).1 ∧ Below w.heap.size w w' := by
  obtain ⟨w1, hw1⟩ : ∃ w1, w1 = (w.alloc (.cells #[.int .i64 a, ku] 28)).alloc (.cells #[v] 22) := ⟨_, rfl⟩
  obtain ⟨w2, hw2⟩ : ∃ w2, w2 = w1.alloc (.cells #[v] 22) := ⟨_, rfl⟩
  have hs1 : w1.heap.size = w.heap.size + 1 + 1 := by rw [hw1]; simp
  have hB1 : Below w.heap.size w w1 := by rw [hw1]; exact ((Below.refl _ w).alloc (Nat.le_refl _) _).alloc (by simp) _
  have hB2 : Below w1.heap.size w1 w2 := by rw [hw2]; exact Below.alloc (Below.refl _ _) (Nat.le_refl _) _
  have hB : Below w.heap.size w w2 := hB1.trans (hB2.mono hB1.size)
  have c0 : w2.cell? ⟨w.heap.size, 0, none⟩ = some (.int .i64 a) := pw_cell_below hB2 (by rw [hw1]; simp)
  have c1 : w2.cell? ⟨w.heap.size, 1, none⟩ = some ku := pw_cell_below hB2 (by rw [hw1]; simp)
  have c2 : w2.cell? ⟨w.heap.size + 1, 0, none⟩ = some v := pw_cell_below hB2 (by rw [hw1]; simp)
  have HK := Aside0.mk (hk.below hB)
  have HV := Aside0.mk (hv.below hB)
  have HS := Aside0.mk (ReadS.one' (hv.below hB1))
  rw [← hw2, hs1] at HS
  have HB := Aside0.mk hB
  have hsz := hB.size
  obtain ⟨A1, d1, rfl, -⟩ := id hk
  obtain ⟨A2, d2, rfl, -⟩ := id hv
  have HM := Aside0.mk (simplicialCode a a _ _ xs xs _ _ true [f] w2 HK.out HK.out (fun _ _ => alwaysB w2) ⟨_, _, _, rfl⟩ HS.out)
  clear hk hv hB hB1 hB2 hs1
  subst hw1
  by_cases h0 : codeSimp a a xs xs [f] true = 0
  · obtain ⟨n, m, rfl, hm, hcn, -, hmp, -, -⟩ := codeSimp_zero' h0
    obtain rfl : n = m := by omega
    have HA : Aside0 (ansFixedFaces n xs f = (xs.filter (fixAt f), 0)) := ⟨by unfold ansFixedFaces; rw [if_pos h0]⟩
    have HN := Aside0.mk hcn
    have HF := Aside0.mk (hmp f (by simp))
    clear hcn hmp hm
    have hfd := field_faces (n : Int)
    go_enter Try.func40, Try.ntmps40
    go_wp2_with (first | (go_at_call 55; rw [← hw2]; clear hw2; refine HM.out.mono ?_; rintro e w3 ⟨rfl, hb⟩; rw [h0]; have c0 := pw_cell_below hb c0; have c1 := pw_cell_below hb c1; have c2 := pw_cell_below hb c2; have HB3 := Aside0.mk hb; have HP := Aside0.mk (fixed1 _ _ n _ xs f (HV.out.below hb) HN.out HF.out c2); clear hb) | (go_at_call 79; refine (part n _ xs _ _ _ (HK.out.below HB3.out) HN.out HP.out).mono ?_; rintro e w4 ⟨u, rfl, ho, hb4⟩; have HO := Aside0.mk ho; obtain ⟨A4, d4, rfl, -⟩ := ho.read; clear ho))
    go_ret2
    have := HB.out
    have := HB3.out
    exact ⟨_, by rw [HA.out]; rfl, by rw [HA.out]; exact HO.out.lower (Nat.le_trans hsz HB3.out.size), by (repeat (first | (with_reducible exact Below.refl _ _) | (with_reducible assumption) | (with_reducible refine below_step ?_ (by assumption)) | (with_reducible apply below_alloc) | (with_reducible apply below_drewN)))⟩
  · obtain ⟨q, hq⟩ : ∃ q, q = codeSimp a a xs xs [f] true := ⟨_, rfl⟩
    have HA : Aside0 (ansFixedFaces a xs f = ([], q)) := ⟨by unfold ansFixedFaces; rw [if_neg h0, hq]⟩
    rw [← hq] at h0
    have hqb : (q != 0) = true := by simpa using h0
    have HQ := Aside0.mk hq
    clear hq h0
    go_enter Try.func40, Try.ntmps40
    go_wp2_with (first | (go_at_call 55; rw [← hw2]; clear hw2; refine HM.out.mono ?_; rintro e w3 ⟨rfl, hb⟩; rw [← HQ.out]))
    go_ret2
    exact ⟨_, by rw [HA.out]; rfl, by rw [HA.out]; exact OwnI.nil _ _, by have := HB.out; (repeat (first | (with_reducible exact Below.refl _ _) | (with_reducible assumption) | (with_reducible refine below_step ?_ (by assumption)) | (with_reducible apply below_alloc) | (with_reducible apply below_drewN)))⟩

theorem filter_take {xs : List Int} {i : Nat} {y : Int} (p : Int → Bool) (h : i < xs.length) (hy : xs.getD i 0 = y) : (xs.take (i + 1)).filter p = if p y then (xs.take i).filter p ++ [y] else (xs.take i).filter p := by
  rw [take_get h hy, List.filter_append]
  cases hp : p y <;> simp [hp]

set_option maxRecDepth 100000 in
set_option maxHeartbeats 2000000 in
theorem specFixedFaces (a : Int) (ku : Value) (xs : List Int) (v : Value) (f : List Int) (w : World) (hk : ReadI w ku xs) (hv : ReadI w v f) :
    Calls Try.prog 39 #[cx a ku, v] w fun e w' => ∃ u, e = .returned (.tuple #[u, .int .i64 (ansFixedFaces a xs f).2]) ∧ OwnI w.heap.size w' u (ansFixedFaces a xs f).1 ∧ Below w.heap.size w w' := by
  obtain ⟨w1, hw1⟩ : ∃ w1, w1 = w.alloc (.cells #[.int .i64 a, ku] 28) := ⟨_, rfl⟩
  have hB : Below w.heap.size w w1 := by rw [hw1]; exact (Below.refl _ w).alloc (Nat.le_refl _) _
  have c0 : w1.cell? ⟨w.heap.size, 0, none⟩ = some (.int .i64 a) := by rw [hw1]; simp
  have c1 : w1.cell? ⟨w.heap.size, 1, none⟩ = some ku := by rw [hw1]; simp
  have hk1 := hk.below hB
  have HK := Aside0.mk hk1
  have HV := Aside0.mk (hv.below hB)
  have HB := Aside0.mk hB
  obtain ⟨A2, d2, rfl, -⟩ := id hv
  obtain ⟨A1, d1, rfl, hc, hr⟩ := hk1
  have HR := Aside0.mk hr
  have hlen := hr.2.1
  clear hk hv hB hr
  by_cases h0 : codeSimp a a xs xs [f] true = 0
  · obtain ⟨n, m, rfl, hm, hcn, -, hmp, -, -⟩ := codeSimp_zero' h0
    obtain rfl : n = m := by omega
    have HA : Aside0 (ansFixedFaces n xs f = (xs.filter (fixAt f), 0)) := ⟨by unfold ansFixedFaces; rw [if_pos h0]⟩
    have HN := Aside0.mk hcn
    have HF := Aside0.mk (hmp f (by simp))
    have hl63 := hcn.len
    clear hcn hmp hm
    go_enter Try.func39, Try.ntmps39
    go_wp2_with (first | (go_at_call 52; rw [← hw1]; clear hw1; refine (specCode n _ xs n _ xs _ f _ HK.out HK.out HV.out).mono ?_; rintro e w3 ⟨rfl, hb⟩; rw [h0]; have c0 := pw_cell_below hb c0; have c1 := pw_cell_below hb c1; have HB3 := Aside0.mk hb; clear hb))
    go_loopw [7, 8] (fun s7 s8 wr => ∃ i : Nat, s8 = .int .i64 i ∧ i ≤ xs.length ∧ Aside0 (OwnI w3.heap.size wr s7 ((xs.take i).filter (fixAt f))) ∧ Aside0 (Below w3.heap.size w3 wr)) (fun _ s8 _ => xs.length - (intOf s8).toNat)
    case atStart => exact ⟨0, rfl, Nat.zero_le _, ⟨OwnI.empty _ (Nat.le_refl _)⟩, ⟨Below.alloc (Below.refl _ _) (Nat.le_refl _) _⟩⟩
    case round =>
      obtain ⟨i, rfl, hi, HO, HBw⟩ := hrel
      have c0 := pw_cell_below HBw.out c0
      have c1 := pw_cell_below HBw.out c1
      have HBr := Aside0.mk (HB3.out.trans (HBw.out.mono HB3.out.size))
      by_cases hlt : i < xs.length
      · obtain ⟨ad, y, rfl, hcell, HY⟩ := ReadI.get (Kd.C_below HR.out HBr.out) hlt
        obtain ⟨z, rfl, hz1, hz2⟩ := cx_dom HN.out HF.out (mem_at hlt HY.out)
        have HT := Aside0.mk (filter_take (fixAt f) hlt HY.out)
        have x1 : ∀ x : Ext wr, x.1.cell? ⟨w.heap.size, 1, none⟩ = some (.slice (some ad) xs.length d1) := fun x => Ext.cell c1 x
        have x4 : ∀ x : Ext wr, x.1.cell? (ad.add i) = some (.int .i64 z) := fun x => Ext.cell hcell x
        have hj1 : (0 : Int) ≤ (i : Int) := by omega
        have hj2 : (i : Int) < (xs.length : Int) := by omega
        have hlf : f.length ≤ 6 := by rw [HF.out.len]; exact HN.out.hi
        have HI : Aside0 (∀ x : Ext wr, Calls Try.prog 54 #[.int .i64 z, .slice A2 f.length d2] x.1 fun e w' => e = .returned (.int .i64 (img z f : Nat)) ∧ Below x.1.heap.size x.1 w') := ⟨fun x => specMoved z hz2 _ f x.1 (HV.out.below (HBr.out.trans (x.2.mono HBr.out.size))) hlf (HF.out.bd5 HN.out.hi)⟩
        have HFX : Aside0 (fixAt f (z : Int) = (((img z f : Nat) : Int) == (z : Int))) := ⟨rfl⟩
        have hll : ((xs.take i).filter (fixAt f)).length ≤ 63 := Nat.le_trans (List.length_filter_le _ _) (by rw [List.length_take]; omega)
        clear hz1 hlf
        obtain ⟨g, hg⟩ : ∃ g, g = img z f := ⟨_, rfl⟩
        rw [← hg] at HI HFX
        clear hg
        cases hfx : (((g : Nat) : Int) == (z : Int)) with
        | true =>
          have HXX := Aside0.mk hfx
          go_wp2
          refine wp_region_ext (by kernel_rfl) (by kernel_rfl) ?_
          repeat (go_big_quiet_step ((first | (go_at_call 54; exact Calls.ext_of (HI.out _)))))
          refine wpQuiet_nil ?_
          rintro _ ⟨x, rfl⟩
          obtain ⟨w5, hw5⟩ : ∃ w5, w5 = x.1 := ⟨_, rfl⟩
          have hb5 : Below wr.heap.size wr w5 := by rw [hw5]; exact x.2
          have e1 := x1 x
          have e4 := x4 x
          rw [← hw5] at e1 e4 ⊢
          have HO5 := Aside0.mk (OwnI.below HO.out hb5)
          have HB5 := Aside0.mk (HBw.out.trans (hb5.mono HBw.out.size))
          clear x1 x4 hw5 hb5 x HI c0 c1 hcell
          go_wp2_with (first | (at_builtin; refine app_own (w0 := w3) w3.heap.size rfl (.tmp 37) (.tmp 43) rfl _ ((xs.take i).filter (fixAt f)) z rfl rfl HO5.out HB5.out HB5.out.size ?hl ?_; (case hl => omega); intro v1 w6 ho hb hg hat; have HO1 := Aside0.mk ho; have HB1 := Aside0.mk hb; clear ho hb hg hat))
          go_roundw
          case rel => exact ⟨i + 1, by go_num, by omega, ⟨by rw [HT.out, HFX.out, HXX.out, if_pos rfl]; exact HO1.out⟩, HB1⟩
          case measure => simp [intOf]; omega
        | false =>
          have HXX := Aside0.mk hfx
          go_wp2
          refine wp_region_ext (by kernel_rfl) (by kernel_rfl) ?_
          repeat (go_big_quiet_step ((first | (go_at_call 54; exact Calls.ext_of (HI.out _)))))
          refine wpQuiet_nil ?_
          rintro _ ⟨x, rfl⟩
          have hbx := x.2
          go_wp2
          go_roundw
          case rel => exact ⟨i + 1, by go_num, by omega, ⟨by rw [HT.out, HFX.out, HXX.out, if_neg (by decide)]; exact OwnI.below HO.out hbx⟩, ⟨HBw.out.trans (hbx.mono HBw.out.size)⟩⟩
          case measure => simp [intOf]; omega
      · have e : i = xs.length := by omega
        have HE := Aside0.mk e
        clear e
        go_wp2
        go_ret2
        exact ⟨_, by rw [HA.out]; rfl, by rw [HA.out]; have := HO.out; rw [HE.out, List.take_length] at this; exact this.lower (Nat.le_trans HB.out.size HB3.out.size), HB.out.trans (HBr.out.mono HB.out.size)⟩
  · obtain ⟨q, hq⟩ : ∃ q, q = codeSimp a a xs xs [f] true := ⟨_, rfl⟩
    have HA : Aside0 (ansFixedFaces a xs f = ([], q)) := ⟨by unfold ansFixedFaces; rw [if_neg h0, hq]⟩
    rw [← hq] at h0
    have hqb : (q != 0) = true := by simpa using h0
    have HQ := Aside0.mk hq
    clear hq h0
    go_enter Try.func39, Try.ntmps39
    go_wp2_with (first | (go_at_call 52; rw [← hw1]; clear hw1; refine (specCode a _ xs a _ xs _ f _ HK.out HK.out HV.out).mono ?_; rintro e w3 ⟨rfl, hb⟩; rw [← HQ.out]))
    go_ret2
    exact ⟨_, by rw [HA.out]; rfl, by rw [HA.out]; exact OwnI.nil _ _, by have := HB.out; (repeat (first | (with_reducible exact Below.refl _ _) | (with_reducible assumption) | (with_reducible refine below_step ?_ (by assumption)) | (with_reducible apply below_alloc) | (with_reducible apply below_drewN)))⟩
theorem lenFixedFaces (a : Int) (xs f : List Int) : (ansFixedFaces a xs f).1.length ≤ 1073741824 := by
  unfold ansFixedFaces
  split
  · next h =>
    obtain ⟨n, m, -, -, hc, -⟩ := codeSimp_zero' h
    exact Nat.le_trans (List.length_filter_le _ _) (by have := hc.len; omega)
  · simp
end Go.Proofs.Ytllmbbaffhpheaa.H
