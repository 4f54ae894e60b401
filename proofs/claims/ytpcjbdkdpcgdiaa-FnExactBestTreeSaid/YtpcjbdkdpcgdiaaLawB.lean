/- The laws' helpers over complexes, and the marks. -/
import Derived.Test.YtpcjbdkdpcgdiaaLaws
import Derived.Test.YtpcjbdkdpcgdiaaPhi
namespace Go.Proofs.Ytpcjbdkdpcgdiaa.H
open Go.RowKit Go.Proofs.YtpcjbdkdpcgdiaaW.PrintWords Go.Proofs.YtpcjbdkdpcgdiaaW.PrintLast Go.Proofs.YtpcjbdkdpcgdiaaW.PrintMore
set_option linter.unusedVariables false
set_option linter.unusedSimpArgs false

theorem grown_trans {a b c : World} {r : Option Nat} (h : a.grownBy b r) (h' : b.grownBy c r) : a.grownBy c r :=
  ⟨h'.os.trans h.os, h'.tape.trans h.tape, h'.output.trans h.output, Nat.le_trans h.size h'.size, fun k hk hne => (h'.block k (Nat.lt_of_lt_of_le hk h.size) hne).trans (h.block k hk hne)⟩
theorem set_grown (w : World) (b i : Nat) (v : Value) : w.grownBy (w.setCell ⟨b, i, none⟩ v) (some b) :=
  ⟨rfl, rfl, rfl, by simp, fun k _ hne => Below.heap_setCell w ⟨b, i, none⟩ v k (fun e => hne (by rw [e]))⟩
/-- what is left of a size -/
def szAns (left : Int) (n : Nat) : Int := if left - n < 0 then -1 else left - n

theorem szInt64S (A : Option Addr) (n c : Nat) (left : Int) (w : World) (h0 : 0 ≤ left) (h1 : left ≤ 1048576) (hn : n ≤ 9223372036854775807) :
    Calls Try.prog 42 #[.slice A n c, .int .i64 left] w fun e w' => e = .returned (.int .i64 (szAns left n)) ∧ Below w.heap.size w w' := by
  by_cases h : left - n < 0
  · have HA : Aside0 (szAns left n = -1) := ⟨by unfold szAns; rw [if_pos h]⟩
    go_enter Try.func42, Try.ntmps42
    go_wp2
    go_ret
    exact ⟨by rw [HA.out]; rfl, Below.refl _ _⟩
  · have HA : Aside0 (szAns left n = left - n) := ⟨by unfold szAns; rw [if_neg h]⟩
    go_enter Try.func42, Try.ntmps42
    go_wp2
    go_ret
    exact ⟨by rw [HA.out]; rfl, Below.refl _ _⟩

theorem szComplex (a : Int) (u : Value) (l : List Int) (left : Int) (w : World) (hr : ReadI w u l) (h0 : 0 ≤ left) (h1 : left ≤ 1048576) :
    Calls Try.prog 11 #[.agg #[.int .i64 a, u], .int .i64 left] w fun e w' => e = .returned (.int .i64 (szAns left l.length)) ∧ Below w.heap.size w w' := by
  have hl := hr.len
  obtain ⟨A, c, rfl, -⟩ := id hr
  have hba : Below w.heap.size w (w.alloc (.cells #[.int .i64 a, .slice A l.length c] 24)) := Below.alloc (Below.refl _ _) (Nat.le_refl _) _
  clear hr
  by_cases h : left - l.length < 0
  · have HA : Aside0 (szAns left l.length = -1) := ⟨by unfold szAns; rw [if_pos h]⟩
    clear h
    go_enter Try.func11, Try.ntmps11
    go_wp2_with (first | (go_at_call 42; refine (szInt64S _ _ _ _ _ h0 h1 hl).mono ?_; rintro e w' ⟨rfl, hb⟩; rw [HA.out]))
    go_ret
    exact ⟨by rw [HA.out]; rfl, by (repeat (first | (with_reducible exact Below.refl _ _) | (with_reducible assumption) | (with_reducible refine below_step ?_ (by assumption)) | (with_reducible apply below_alloc) | (with_reducible apply below_drewN)))⟩
  · have HA : Aside0 (szAns left l.length = left - l.length) := ⟨by unfold szAns; rw [if_neg h]⟩
    go_enter Try.func11, Try.ntmps11
    go_wp2_with (first | (go_at_call 42; refine (szInt64S _ _ _ _ _ h0 h1 hl).mono ?_; rintro e w' ⟨rfl, hb⟩; rw [HA.out]))
    go_ret
    exact ⟨by rw [HA.out]; rfl, by (repeat (first | (with_reducible exact Below.refl _ _) | (with_reducible assumption) | (with_reducible refine below_step ?_ (by assumption)) | (with_reducible apply below_alloc) | (with_reducible apply below_drewN)))⟩

set_option maxHeartbeats 1000000 in
theorem toComplex (a : Int) (u : Value) (l : List Int) (w : World) (hr : ReadI w u l) (hl : l.length ≤ 35184372088832) :
    Calls Try.prog 13 #[.agg #[.int .i64 a, u]] w fun e w' => ∃ u', e = .returned (.agg #[.int .i64 a, u']) ∧ OwnI w.heap.size w' u' l ∧ Below w.heap.size w w' := by
  have HR := Aside0.mk hr
  obtain ⟨A, c, rfl, -⟩ := id hr
  clear hr
  obtain ⟨w0, hw0⟩ : ∃ w0, w0 = ((w.alloc (Obj.cells #[Value.int IntKind.i64 a, Value.slice A l.length c] 24)).alloc (Obj.cells #[Value.int IntKind.i64 0, Value.slice none 0 0] 28)).alloc (Obj.cells #[Value.int IntKind.i64 a, Value.slice none 0 0] 28) := ⟨_, rfl⟩
  have hs0 : w0.heap.size = w.heap.size + 1 + 1 + 1 := by rw [hw0]; simp
  have hb2 : w0.heap[w.heap.size + 1]? = some (Obj.cells #[Value.int IntKind.i64 0, Value.slice none 0 0] 28) := by
    rw [hw0, (World.grownBy_alloc _ _ none).block _ (by simp) (by simp)]
    have := heap_alloc_new (w.alloc (Obj.cells #[Value.int IntKind.i64 a, Value.slice A l.length c] 24)) (Obj.cells #[Value.int IntKind.i64 0, Value.slice none 0 0] 28)
    rwa [World.size_alloc] at this
  have hb3 : w0.heap[w.heap.size + 1 + 1]? = some (Obj.cells #[Value.int IntKind.i64 a, Value.slice none 0 0] 28) := by
    rw [hw0]
    have := heap_alloc_new ((w.alloc (Obj.cells #[Value.int IntKind.i64 a, Value.slice A l.length c] 24)).alloc (Obj.cells #[Value.int IntKind.i64 0, Value.slice none 0 0] 28)) (Obj.cells #[Value.int IntKind.i64 a, Value.slice none 0 0] 28)
    rwa [World.size_alloc, World.size_alloc] at this
  have hB0 : Below w.heap.size w w0 := by rw [hw0]; exact (((Below.refl _ w).alloc (Nat.le_refl _) _).alloc (by simp) _).alloc (by simp; omega) _
  have HB0 := Aside0.mk hB0
  clear hB0
  go_enter Try.func13, Try.ntmps13
  go_wp2_with (first | (rw [← hw0]; clear hw0; go_at_call 21; refine (toInt64S _ l _ (ReadI.below HR.out HB0.out) hl).mono ?_; rintro e w1 ⟨u', rfl, ho, hb⟩; obtain ⟨A', c', rfl, -⟩ := ho.read; have hk2 := (hb.block (w.heap.size + 1) (by omega)).trans hb2; have hk3 := (hb.block (w.heap.size + 1 + 1) (by omega)).trans hb3; have hn := ho.base; have h30 : w1.cell? ⟨w.heap.size + 1 + 1, 0, none⟩ = some (.int .i64 a) := (by simp [World.cell?, hk3]); have h31 : w1.cell? ⟨w.heap.size + 1 + 1, 1, none⟩ = some (.slice none 0 0) := (by simp [World.cell?, hk3]); have h3f : w1.frozen? ⟨w.heap.size + 1 + 1, 1, none⟩ = false := (by simp [World.frozen?, hk3]); have h20 : w1.cell? ⟨w.heap.size + 1, 0, none⟩ = some (.int .i64 0) := (by simp [World.cell?, hk2]); have h21 : w1.cell? ⟨w.heap.size + 1, 1, none⟩ = some (.slice none 0 0) := (by simp [World.cell?, hk2]); have h2f : w1.frozen? ⟨w.heap.size + 1, 0, none⟩ = false := (by simp [World.frozen?, hk2]); have h2g : w1.frozen? ⟨w.heap.size + 1, 1, none⟩ = false := (by simp [World.frozen?, hk2]); have HO := Aside0.mk ho; have HB1 := Aside0.mk hb; have HN := Aside0.mk hn; have HK2 := Aside0.mk hk2; clear ho hb hk2 hk3 hn))
  refine bodyPost_ret (results_cell_row rfl _ _ (w.heap.size + 1) 28 #[.int .i64 a, .slice A' l.length c'] (0, 0) _ rfl (by refine blk_put (cs := #[.int .i64 a, .slice none 0 0]) ?_ 1 _ rfl; refine blk_put (cs := #[.int .i64 0, .slice none 0 0]) ?_ 0 _ rfl; refine blk_far ?_ ?_ _; exact HK2.out; simp) Try.underlying28 rfl (by kernel_rfl)) rfl ?_
  have hb := HB0.out.trans (HB1.out.mono (by rw [hs0]; omega))
  refine ⟨_, rfl, ?_, ((hb.setCell (by simp; omega) _).setCell (by simp) _).setCell (by simp) _⟩
  have hn := HN.out
  rw [hs0] at hn
  have ho := HO.out.lower (b' := w.heap.size) (by rw [hs0]; omega)
  exact ((ho.grown (set_grown _ _ _ _) (fun k hk => by have := hn k hk; simp; omega)).grown (set_grown _ _ _ _) (fun k hk => by have := hn k hk; simp; omega)).grown (set_grown _ _ _ _) (fun k hk => by have := hn k hk; simp; omega)

set_option maxHeartbeats 1000000 in
theorem eqComplex (a b : Int) (u v : Value) (xs ys : List Int) (w : World) (hu : ReadI w u xs) (hv : ReadI w v ys) :
    Calls Try.prog 15 #[.agg #[.int .i64 a, u], .agg #[.int .i64 b, v]] w fun e w' => e = .returned (.bool (decide (a = b) && (xs == ys))) ∧ Below w.heap.size w w' := by
  have HU := Aside0.mk hu
  have HV := Aside0.mk hv
  obtain ⟨A, c, rfl, -⟩ := id hu
  obtain ⟨A', c', rfl, -⟩ := id hv
  clear hu hv
  by_cases hab : a = b
  · have h1 : (a != b) = false := by simp [hab]
    have HA := Aside0.mk hab
    clear hab
    cases hq : (xs == ys) with
    | true =>
      go_enter Try.func15, Try.ntmps15
      go_wp2_with (first | (go_at_call 23; refine (eqInt64S _ _ xs ys _ (ReadI.below HU.out ?hx) (ReadI.below HV.out ?hy)).mono ?_; (case hx => (repeat (first | (with_reducible exact Below.refl _ _) | (with_reducible assumption) | (with_reducible refine below_step ?_ (by assumption)) | (with_reducible apply below_alloc) | (with_reducible apply below_drewN)))); (case hy => (repeat (first | (with_reducible exact Below.refl _ _) | (with_reducible assumption) | (with_reducible refine below_step ?_ (by assumption)) | (with_reducible apply below_alloc) | (with_reducible apply below_drewN)))); rintro e w1 ⟨rfl, hb⟩; rw [hq]))
      go_ret
      exact ⟨by rw [HA.out, decide_eq_true rfl]; rfl, by (repeat (first | (with_reducible exact Below.refl _ _) | (with_reducible assumption) | (with_reducible refine below_step ?_ (by assumption)) | (with_reducible apply below_alloc) | (with_reducible apply below_drewN)))⟩
    | false =>
      go_enter Try.func15, Try.ntmps15
      go_wp2_with (first | (go_at_call 23; refine (eqInt64S _ _ xs ys _ (ReadI.below HU.out ?hx) (ReadI.below HV.out ?hy)).mono ?_; (case hx => (repeat (first | (with_reducible exact Below.refl _ _) | (with_reducible assumption) | (with_reducible refine below_step ?_ (by assumption)) | (with_reducible apply below_alloc) | (with_reducible apply below_drewN)))); (case hy => (repeat (first | (with_reducible exact Below.refl _ _) | (with_reducible assumption) | (with_reducible refine below_step ?_ (by assumption)) | (with_reducible apply below_alloc) | (with_reducible apply below_drewN)))); rintro e w1 ⟨rfl, hb⟩; rw [hq]))
      go_ret
      exact ⟨by rw [Bool.and_false]; rfl, by (repeat (first | (with_reducible exact Below.refl _ _) | (with_reducible assumption) | (with_reducible refine below_step ?_ (by assumption)) | (with_reducible apply below_alloc) | (with_reducible apply below_drewN)))⟩
  · have h1 : (a != b) = true := by simpa using hab
    have HA := Aside0.mk hab
    clear hab
    go_enter Try.func15, Try.ntmps15
    go_wp2
    go_ret
    exact ⟨by rw [decide_eq_false HA.out]; rfl, by (repeat (first | (with_reducible exact Below.refl _ _) | (with_reducible assumption) | (with_reducible refine below_step ?_ (by assumption)) | (with_reducible apply below_alloc) | (with_reducible apply below_drewN)))⟩

/-- marked from k on -/
def marks (k : Int) (n : Nat) : List Int := (List.range n).map fun i : Nat => k + i
theorem marks_succ (k : Int) (n : Nat) : marks k (n + 1) = marks k n ++ [k + n] := by simp [marks, List.range_succ]
theorem marks_len (k : Int) (n : Nat) : (marks k n).length = n := by simp [marks]
theorem marks_set {k : Int} {xs : List Int} {i : Nat} (h : i < xs.length) : (marks k i ++ xs.drop i).set i (k + i) = marks k (i + 1) ++ xs.drop (i + 1) := by
  rw [List.set_append_right _ _ (by rw [marks_len]; exact Nat.le_refl _), marks_len, Nat.sub_self, List.drop_eq_getElem_cons h, List.set_cons_zero, marks_succ]
  simp
theorem marks_at (k : Int) {n i : Nat} (h : i < n) : (marks k n).getD i 0 = k + i := by
  simp [marks, List.getD_eq_getElem?_getD, h]

set_option maxHeartbeats 1000000 in
theorem markInt64S (b : Nat) (v : Value) (xs : List Int) (k : Nat) (w : World) (ho : OwnI b w v xs) (hk : k ≤ 1073741824) (hl : xs.length ≤ 1073741824) :
    Calls Try.prog 25 #[v, .int .i64 k] w fun e w' => e = .returned (.int .i64 ((k : Int) + xs.length)) ∧ OwnI b w' v (marks k xs.length) ∧ w.grownBy w' v.ownBlock ∧ Below b w w' := by
  have HO := Aside0.mk ho
  obtain ⟨A, c, rfl, -⟩ := ho.read
  clear ho
  go_enter Try.func25, Try.ntmps25
  go_wp2
  go_loopw [1, 5] (fun vk vi wr => ∃ i : Nat, vi = .int .i64 i ∧ vk = .int .i64 ((k : Int) + i) ∧ i ≤ xs.length ∧ Aside0 (OwnI b wr (.slice A xs.length c) (marks k i ++ xs.drop i)) ∧ Aside0 (w.grownBy wr (Value.slice A xs.length c).ownBlock) ∧ Aside0 (Below b w wr)) (fun _ vi _ => xs.length - (intOf vi).toNat)
  case atStart => exact ⟨0, rfl, by simp, Nat.zero_le _, by simpa [marks] using HO, ⟨⟨rfl, rfl, rfl, Nat.le_refl _, fun _ _ _ => rfl⟩⟩, ⟨Below.refl _ _⟩⟩
  case round =>
    obtain ⟨i, rfl, rfl, hi, HI, HG, HB⟩ := hrel
    by_cases hlt : i < xs.length
    · obtain ⟨g, cap, e2, -⟩ := Kd.R_form HI.out (by simp [marks_len]; omega)
      have el : (marks k i ++ xs.drop i).length = xs.length := by rw [List.length_append, marks_len, List.length_drop]; omega
      rw [el] at e2
      cases e2
      obtain ⟨⟨y0, hcell2⟩, hf2⟩ := OwnI.slot HI.out (i := i) (by omega)
      have HM := Aside0.mk (marks_set (k := (k : Int)) hlt)
      clear el
      go_wp2_with (first | ((with_reducible refine gate_store (t := 2) (p := 15) rfl ?_); refine store_own (w0 := w) rfl (p := 15) rfl rfl i ((k : Int) + i) HI.out ?ha ?hb ?hc ?_; (case ha => omega); (case hb => rfl); (case hc => rfl); intro w' ho hg hb; have HO2 := Aside0.mk ho; have HB3 := Aside0.mk (HB.out.trans hb); have HG3 := Aside0.mk (grown_trans HG.out hg); clear ho hg hb))
      go_roundw
      case rel => exact ⟨i + 1, by go_num, by go_num, by omega, ⟨by rw [← HM.out]; exact HO2.out⟩, HG3, HB3⟩
      case measure => simp [intOf]; omega
    · have e : i = xs.length := by omega
      have HE := Aside0.mk e
      clear e
      go_wp2
      go_ret
      exact ⟨by rw [HE.out]; rfl, by have := HI.out; rw [HE.out, List.drop_length, List.append_nil] at this; exact this, HG.out, HB.out⟩

set_option maxHeartbeats 1000000 in
theorem heldInt64S (v : Value) (k n : Nat) (w : World) (hr : ReadI w v (marks k n)) (hk : k ≤ 1073741824) (hl : n ≤ 1073741824) :
    Calls Try.prog 26 #[v, .int .i64 k] w fun e w' => e = .returned (.int .i64 ((k : Int) + n)) ∧ Below w.heap.size w w' := by
  obtain ⟨A, c, rfl, hc, hr⟩ := hr
  have HR := Aside0.mk hr
  rw [marks_len]
  have hlen := marks_len (k : Int) n
  rw [marks_len] at hc
  clear hr
  go_enter Try.func26, Try.ntmps26
  go_wp2
  go_loopw [1, 5] (fun vk vi wr => ∃ i : Nat, vi = .int .i64 i ∧ vk = .int .i64 ((k : Int) + i) ∧ i ≤ n ∧ Aside0 (Below w.heap.size w wr)) (fun _ vi _ => n - (intOf vi).toNat)
  case atStart => exact ⟨0, rfl, by simp, Nat.zero_le _, ⟨Below.refl _ _⟩⟩
  case round =>
    obtain ⟨i, rfl, rfl, hi, HB⟩ := hrel
    by_cases hlt : i < n
    · obtain ⟨ad, y, e1, hcell, HY⟩ := ReadI.get (Kd.C_below HR.out HB.out) (i := i) (by omega)
      cases e1
      have hy := HY.out
      rw [marks_at _ hlt] at hy
      rw [← hy] at hcell
      clear hy
      go_wp2
      go_roundw
      case rel => exact ⟨i + 1, by go_num, by go_num, by omega, HB⟩
      case measure => simp [intOf]; omega
    · have e : i = n := by omega
      have HE := Aside0.mk e
      clear e
      go_wp2
      go_ret
      exact ⟨by rw [HE.out]; rfl, HB.out⟩
end Go.Proofs.Ytpcjbdkdpcgdiaa.H