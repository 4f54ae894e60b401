/- Values, functions of a complex, and madeBy: the program's. -/
import Derived.Test.YtllmbbaffhpheaaMade
namespace Go.Proofs.Ytllmbbaffhpheaa.H
open Go.RowKit Go.Proofs.YtllmbbaffhpheaaW.PrintWords Go.Proofs.YtllmbbaffhpheaaW.PrintLast Go.Proofs.YtllmbbaffhpheaaW.PrintMore
set_option linter.unusedVariables false
set_option linter.unusedSimpArgs false

/-- a value of a function -/
def isVal (v : Int) : Bool := decide (-1000 ≤ v) && decide (v ≤ 1000)
/-- a function of so many faces -/
def isFun (k : Nat) (f : List Int) : Bool := decide (f.length = k) && f.all isVal
/-- the code for functions -/
def codeFun (a : Int) (xs : List Int) (r : Bool) (fs : List (List Int)) : Int := if cxOk a xs then (if r && fs.all (isFun xs.length) then 0 else 2) else 1

theorem isValue (v : Int) (w : World) : Calls Try.prog 77 #[.int .i64 v] w fun e w' => e = .returned (.bool (isVal v)) ∧ Below w.heap.size w w' := by
  have HX : Aside0 (isVal v = (decide (-1000 ≤ v) && decide (v ≤ 1000))) := ⟨rfl⟩
  go_enter Try.func77, Try.ntmps77
  go_wp2_with (first | (go_at_call 71; refine (within _ _ _ _).mono ?_; rintro e w2 ⟨rfl, hb⟩; rw [← HX.out]))
  go_ret
  exact ⟨rfl, hb⟩
theorem isValueP (w : World) : PredI w (.func (.func 77) #[] #[]) isVal (fun _ => True) :=
  ⟨_, _, _, rfl, Enters.mk' Try.func77 rfl rfl, fun w1 x _ _ => isValue x w1⟩

set_option maxHeartbeats 1000000 in
theorem isFunction (a : Int) (ku : Value) (xs : List Int) (v : Value) (f : List Int) (w : World) (hk : ReadI w ku xs) (hv : ReadI w v f) :
    Calls Try.prog 123 #[cx a ku, v] w fun e w' => e = .returned (.bool (isFun xs.length f)) ∧ Below w.heap.size w w' := by
  obtain ⟨w1, hw1⟩ : ∃ w1, w1 = w.alloc (.cells #[.int .i64 a, ku] 28) := ⟨_, rfl⟩
  have hB : Below w.heap.size w w1 := by rw [hw1]; exact Below.alloc (Below.refl _ _) (Nat.le_refl _) _
  have c0 : w1.cell? ⟨w.heap.size, 0, none⟩ = some (.int .i64 a) := by rw [hw1]; simp
  have c1 : w1.cell? ⟨w.heap.size, 1, none⟩ = some ku := by rw [hw1]; simp
  have HV := Aside0.mk (hv.below hB)
  have HB := Aside0.mk hB
  have HP := Aside0.mk (isValueP w1)
  obtain ⟨A1, d1, rfl, -⟩ := id hk
  obtain ⟨A2, d2, rfl, -⟩ := id hv
  have l1 := hk.len
  have l2 := hv.len
  clear hk hv hB
  by_cases hl : f.length = xs.length
  · have hlb : ((f.length : Int) == (xs.length : Int)) = true := by rw [beq_iff_eq]; omega
    have HA : Aside0 (isFun xs.length f = f.all isVal) := ⟨by unfold isFun; rw [decide_eq_true hl, Bool.true_and]⟩
    clear hl
    go_enter Try.func123, Try.ntmps123
    go_wp2_with (first | (rw [← hw1]; clear hw1; go_at_call 57; refine (areAll _ _ _ isVal (fun _ => True) _ HV.out HP.out (fun _ _ => trivial)).mono ?_; rintro e w2 ⟨rfl, hb⟩; rw [← HA.out]))
    go_ret
    exact ⟨rfl, HB.out.trans (hb.mono HB.out.size)⟩
  · have hlb : ((f.length : Int) == (xs.length : Int)) = false := by rw [beq_eq_false_iff_ne]; omega
    have HA : Aside0 (isFun xs.length f = false) := ⟨by unfold isFun; rw [decide_eq_false hl, Bool.false_and]⟩
    clear hl
    go_enter Try.func123, Try.ntmps123
    go_wp2
    rw [← hw1]
    go_ret
    exact ⟨by rw [HA.out]; rfl, HB.out⟩
theorem isFunctionP (a : Int) (ku : Value) (xs : List Int) (w : World) (hk : ReadI w ku xs) : PredS w (.func (.func 123) #[cx a ku] #[]) (isFun xs.length) (fun _ => True) :=
  ⟨_, _, _, rfl, Enters.mk' Try.func123 rfl rfl, fun w1 u f hb hu _ => isFunction a ku xs u f w1 (hk.below hb) hu⟩

set_option maxHeartbeats 1000000 in
theorem functionCode1 (w : World) (br bl bk : Nat) (r : Bool) (lv : Value) (fs : List (List Int)) (a : Int) (ku : Value) (xs : List Int) (hl : ReadS w lv fs) (hk : ReadI w ku xs) (h0 : w.cell? ⟨br, 0, none⟩ = some (.bool r)) (h1 : w.cell? ⟨bl, 0, none⟩ = some lv) (h2 : w.cell? ⟨bk, 0, none⟩ = some (.int .i64 a)) (h3 : w.cell? ⟨bk, 1, none⟩ = some ku) :
    ThunkB w (.func (.func 122) #[] #[.pointer (some ⟨br, 0, none⟩), .pointer (some ⟨bl, 0, none⟩), .pointer (some ⟨bk, 0, none⟩)]) (r && fs.all (isFun xs.length)) := by
  refine ⟨_, _, _, rfl, Enters.mk' Try.func122 rfl rfl, fun w1 hb => ?_⟩
  have c0 := pw_cell_below hb h0
  have c1 := pw_cell_below hb h1
  have c2 := pw_cell_below hb h2
  have c3 := pw_cell_below hb h3
  have HL := Aside0.mk (hl.below hb)
  have HP := Aside0.mk (isFunctionP a ku xs w1 (hk.below hb))
  obtain ⟨A1, d1, rfl, -⟩ := id hk
  obtain ⟨A2, d2, rfl, -⟩ := id hl
  clear hb h0 h1 h2 h3 hl hk
  show Calls _ _ #[_, _, _] _ _
  cases r with
  | false =>
    go_enter Try.func122, Try.ntmps122
    go_wp2
    go_ret
    exact ⟨rfl, Below.refl _ _⟩
  | true =>
    go_enter Try.func122, Try.ntmps122
    go_wp2_with (first | (go_at_call 103; refine (areAllS _ _ _ _ _ _ HL.out HP.out (fun _ _ => trivial)).mono ?_; rintro e w4 ⟨rfl, hb4⟩))
    go_ret
    exact ⟨rfl, hb4⟩

set_option maxHeartbeats 2000000 in
theorem complexCode (a : Int) (ku : Value) (xs : List Int) (fv : Value) (r : Bool) (w : World) (hk : ReadI w ku xs) (hf : ThunkB w fv r) :
    Calls Try.prog 67 #[cx a ku, fv] w fun e w' => e = .returned (.int .i64 (if cxOk a xs then (if r then 0 else 2) else 1)) ∧ Below w.heap.size w w' := by
  obtain ⟨w1, hw1⟩ : ∃ w1, w1 = w.alloc (.cells #[.int .i64 a, ku] 28) := ⟨_, rfl⟩
  have hB : Below w.heap.size w w1 := by rw [hw1]; exact Below.alloc (Below.refl _ _) (Nat.le_refl _) _
  have c0 : w1.cell? ⟨w.heap.size, 0, none⟩ = some (.int .i64 a) := by rw [hw1]; simp
  have c1 : w1.cell? ⟨w.heap.size, 1, none⟩ = some ku := by rw [hw1]; simp
  have HK := Aside0.mk (hk.below hB)
  have HB := Aside0.mk hB
  obtain ⟨g, first, caps, rfl, hent, hp⟩ := hf.below hB
  have HP := Aside0.mk hp
  obtain ⟨A1, d1, rfl, -⟩ := id hk
  clear hk hf hp hB
  unfold Enters at hent
  cases h1 : cxOk a xs with
  | false =>
    go_enter Try.func67, Try.ntmps67
    go_wp2_with (first | (rw [← hw1]; clear hw1; go_at_call 61; refine (isComplex _ _ xs _ HK.out).mono ?_; rintro e w2 ⟨rfl, hb⟩; rw [h1]))
    go_ret
    exact ⟨rfl, HB.out.trans (hb.mono HB.out.size)⟩
  | true =>
    cases r with
    | false =>
      go_enter Try.func67, Try.ntmps67
      go_wp2_with (first | (rw [← hw1]; clear hw1; go_at_call 61; refine (isComplex _ _ xs _ HK.out).mono ?_; rintro e w2 ⟨rfl, hb⟩; rw [h1]; have HB2 := Aside0.mk hb; clear hb) | (refine (HP.out _ HB2.out).mono ?_; rintro e w3 ⟨rfl, hb⟩))
      go_ret
      exact ⟨rfl, HB.out.trans ((HB2.out.trans (hb.mono HB2.out.size)).mono HB.out.size)⟩
    | true =>
      go_enter Try.func67, Try.ntmps67
      go_wp2_with (first | (rw [← hw1]; clear hw1; go_at_call 61; refine (isComplex _ _ xs _ HK.out).mono ?_; rintro e w2 ⟨rfl, hb⟩; rw [h1]; have HB2 := Aside0.mk hb; clear hb) | (refine (HP.out _ HB2.out).mono ?_; rintro e w3 ⟨rfl, hb⟩))
      go_ret
      exact ⟨rfl, HB.out.trans ((HB2.out.trans (hb.mono HB2.out.size)).mono HB.out.size)⟩

set_option maxRecDepth 100000 in
set_option maxHeartbeats 1000000 in
theorem functionCode (a : Int) (ku : Value) (xs : List Int) (r : Bool) (lv : Value) (fs : List (List Int)) (w : World) (hk : ReadI w ku xs) (hl : ReadS w lv fs) :
    Calls Try.prog 76 #[cx a ku, .bool r, lv] w fun e w' => e = .returned (.int .i64 (codeFun a xs r fs)) ∧ Below w.heap.size w w' := by
  obtain ⟨w0, hw0⟩ : ∃ w0, w0 = (w.alloc (.cells #[.int .i64 a, ku] 28)).alloc (.cells #[.bool r] 4) := ⟨_, rfl⟩
  obtain ⟨w1, hw1⟩ : ∃ w1, w1 = w0.alloc (.cells #[lv] 97) := ⟨_, rfl⟩
  have hs0 : w0.heap.size = w.heap.size + 1 + 1 := by rw [hw0]; simp
  have hB0 : Below w.heap.size w w0 := by rw [hw0]; exact ((Below.refl _ w).alloc (Nat.le_refl _) _).alloc (by simp) _
  have hB1 : Below w0.heap.size w0 w1 := by rw [hw1]; exact Below.alloc (Below.refl _ _) (Nat.le_refl _) _
  have hB : Below w.heap.size w w1 := hB0.trans (hB1.mono hB0.size)
  have c0 : w1.cell? ⟨w.heap.size, 0, none⟩ = some (.int .i64 a) := pw_cell_below hB1 (by rw [hw0]; simp)
  have c1 : w1.cell? ⟨w.heap.size, 1, none⟩ = some ku := pw_cell_below hB1 (by rw [hw0]; simp)
  have c2 : w1.cell? ⟨w.heap.size + 1, 0, none⟩ = some (.bool r) := pw_cell_below hB1 (by rw [hw0]; simp)
  have c3 : w1.cell? ⟨w.heap.size + 1 + 1, 0, none⟩ = some lv := by rw [hw1, ← hs0]; simp
  have c0a : w0.cell? ⟨w.heap.size, 0, none⟩ = some (.int .i64 a) := by rw [hw0]; simp
  have c1a : w0.cell? ⟨w.heap.size, 1, none⟩ = some ku := by rw [hw0]; simp
  have HK := Aside0.mk (hk.below hB)
  have HT := Aside0.mk (functionCode1 w1 (w.heap.size + 1) (w.heap.size + 1 + 1) w.heap.size r lv fs a ku xs (hl.below hB) (hk.below hB) c2 c3 c0 c1)
  have HB := Aside0.mk hB
  have HX : Aside0 (codeFun a xs r fs = (if cxOk a xs then (if r && fs.all (isFun xs.length) then 0 else 2) else 1)) := ⟨rfl⟩
  obtain ⟨A1, d1, rfl, -⟩ := id hk
  obtain ⟨A2, d2, rfl, -⟩ := id hl
  clear hk hl hB hB0 hB1 hs0
  subst hw0
  go_enter Try.func76, Try.ntmps76
  go_wp2_with (first | (rw [← hw1]; clear hw1 c0a c1a; go_at_call 67; refine (complexCode a _ xs _ _ _ HK.out HT.out).mono ?_; rintro e w2 ⟨rfl, hb⟩; rw [← HX.out]))
  go_ret
  exact ⟨rfl, HB.out.trans (hb.mono HB.out.size)⟩

set_option maxHeartbeats 1000000 in
theorem madeBy11 (w : World) (bg : Nat) (g : Nat) (hg : g < 64) (h0 : w.cell? ⟨bg, 0, none⟩ = some (.int .i64 g)) :
    PredI w (.func (.func 144) #[] #[.pointer (some ⟨bg, 0, none⟩)]) (fun s => decide (g &&& s.toNat = g)) (fun s => ∃ z : Nat, s = z ∧ z < 64) := by
  refine ⟨_, _, _, rfl, Enters.mk' Try.func144 rfl rfl, fun w1 x hb hx => ?_⟩
  obtain ⟨z, rfl, hz⟩ := hx
  have c0 := pw_cell_below hb h0
  clear hb h0
  simp only [Int.toNat_natCast]
  show Calls _ _ #[_, _] _ _
  go_enter Try.func144, Try.ntmps144
  go_wp2_with (first | (go_at_call 94; refine (isInC g z hg hz _).mono ?_; rintro e w2 ⟨rfl, hb⟩))
  go_ret
  exact ⟨rfl, hb⟩

set_option maxRecDepth 100000 in
set_option maxHeartbeats 1000000 in
theorem madeBy1 (w : World) (bs : Nat) (m : Nat) (hm : m ≤ 6) (u : Value) (ss : List Int) (hu : ReadI w u ss) (hs : ∀ s ∈ ss, ∃ z : Nat, s = z ∧ z < 64) (h0 : w.cell? ⟨bs, 0, none⟩ = some u) :
    PredI w (.func (.func 143) #[] #[.pointer (some ⟨bs, 0, none⟩)]) (madeAt ss) (fun g => 1 ≤ g ∧ g < ((2 ^ m : Nat) : Int)) := by
  refine ⟨_, _, _, rfl, Enters.mk' Try.func143 rfl rfl, fun w1 x hb hx => ?_⟩
  obtain ⟨g, rfl⟩ : ∃ g : Nat, x = g := ⟨x.toNat, by omega⟩
  have hg : g < 64 := by have := pw6 hm; omega
  obtain ⟨w2, hw2⟩ : ∃ w2, w2 = w1.alloc (.cells #[.int .i64 g] 2) := ⟨_, rfl⟩
  have hb2 : Below w1.heap.size w1 w2 := by rw [hw2]; exact Below.alloc (Below.refl _ _) (Nat.le_refl _) _
  have hb02 := hb.trans (hb2.mono hb.size)
  have c0 := pw_cell_below hb h0
  have c3 : w2.cell? ⟨w1.heap.size, 0, none⟩ = some (.int .i64 g) := by rw [hw2]; simp
  have HP := Aside0.mk (madeBy11 w2 w1.heap.size g hg c3)
  have HU := Aside0.mk (hu.below hb02)
  have HS := Aside0.mk hs
  have HB2 := Aside0.mk hb2
  have HI : Aside0 (madeAt ss g = ss.any (fun s => decide (g &&& s.toNat = g))) := ⟨rfl⟩
  have c0b : (w1.alloc (.cells #[.int .i64 g] 2)).cell? ⟨bs, 0, none⟩ = some u := by rw [← hw2]; exact pw_cell_below hb2 c0
  obtain ⟨A1, d1, rfl, -⟩ := id hu
  clear hb h0 hu hx hb2 hb02 c3 hs
  show Calls _ _ #[_, _] _ _
  go_enter Try.func143, Try.ntmps143
  go_wp2_with (first | (go_at_call 98; rw [← hw2]; clear hw2 c0b; refine (containsFunc _ ss _ _ _ _ HU.out HP.out HS.out).mono ?_; rintro e w3 ⟨rfl, hb3⟩; rw [← HI.out]))
  go_ret
  exact ⟨rfl, HB2.out.trans (hb3.mono HB2.out.size)⟩

set_option maxRecDepth 100000 in
set_option maxHeartbeats 1000000 in
theorem madeBy (n : Nat) (hn : n ≤ 6) (v : Value) (ss : List Int) (w : World) (hv : ReadI w v ss) (hs : ∀ s ∈ ss, ∃ z : Nat, s = z ∧ z < 64) :
    Calls Try.prog 124 #[.int .i64 n, v] w fun e w' => ∃ u, e = .returned (.agg #[.int .i64 n, u]) ∧ OwnI w.heap.size w' u (thL (madeAt ss) (2 ^ n)) ∧ Below w.heap.size w w' := by
  obtain ⟨wa, hwa⟩ : ∃ wa, wa = w.alloc (.cells #[v] 22) := ⟨_, rfl⟩
  obtain ⟨w0, hw0⟩ : ∃ w0, w0 = wa.alloc (.cells #[.int .i64 0, .slice none 0 0] 28) := ⟨_, rfl⟩
  have hsa : wa.heap.size = w.heap.size + 1 := by rw [hwa]; simp
  have hBa : Below w.heap.size w wa := by rw [hwa]; exact Below.alloc (Below.refl _ _) (Nat.le_refl _) _
  have hB0 : Below wa.heap.size wa w0 := by rw [hw0]; exact Below.alloc (Below.refl _ _) (Nat.le_refl _) _
  have hs0 : w0.heap.size = w.heap.size + 1 + 1 := by rw [hw0]; simp [hsa]
  have hB : Below w.heap.size w w0 := hBa.trans (hB0.mono hBa.size)
  have c0 : w0.cell? ⟨w.heap.size, 0, none⟩ = some v := pw_cell_below hB0 (by rw [hwa]; simp)
  have hb : w0.heap[w.heap.size + 1]? = some (.cells #[.int .i64 0, .slice none 0 0] 28) := by rw [hw0, ← hsa]; exact blk_new _ _
  have HP := Aside0.mk (madeBy1 w0 w.heap.size n hn v ss (hv.below hB) hs c0)
  have HB := Aside0.mk hB
  have HK := Aside0.mk hb
  have HS := Aside0.mk hs0
  obtain ⟨A1, d1, rfl, -⟩ := id hv
  clear hv hs hB hBa hB0 hsa hs0 hb
  subst hwa
  go_enter Try.func124, Try.ntmps124
  go_wp2_with (first | (go_at_call 96; rw [← hw0]; clear hw0; refine (those n hn _ _ _ HP.out).mono ?_; rintro e w2 ⟨u, rfl, ho, hb2⟩; obtain ⟨A2, d2, rfl, -⟩ := ho.read; have HO := Aside0.mk ho; have HB2 := Aside0.mk hb2; have HK2 := Aside0.mk (blk_below HK.out hb2); have c60 : w2.cell? ⟨w.heap.size + 1, 0, none⟩ = some (.int .i64 0) := blk_cell HK2.out 0; have c61 : w2.cell? ⟨w.heap.size + 1, 1, none⟩ = some (.slice none 0 0) := blk_cell HK2.out 1; have f60 : w2.frozen? ⟨w.heap.size + 1, 0, none⟩ = false := blk_frozen HK2.out 0; have f61 : w2.frozen? ⟨w.heap.size + 1, 1, none⟩ = false := blk_frozen HK2.out 1; clear ho hb2))
  refine bodyPost_ret (results_cell_row rfl _ _ (w.heap.size + 1) 28 #[.int .i64 n, .slice A2 (thL (madeAt ss) (2 ^ n)).length d2] (0, 0) _ rfl (by refine blk_put (cs := #[.int .i64 n, .slice none 0 0]) ?_ 1 _ rfl; refine blk_put (cs := #[.int .i64 0, .slice none 0 0]) ?_ 0 _ rfl; exact HK2.out) Try.underlying28 rfl (by kernel_rfl)) rfl ?_
  have hb := HB.out.trans (HB2.out.mono HB.out.size)
  refine ⟨_, rfl, ?_, (hb.setCell (by simp) _).setCell (by simp) _⟩
  have hs := HS.out
  have hbs := HO.out.base
  have ho := HO.out.lower (b' := w.heap.size) (by omega)
  exact (ho.grown (set_grown' _ (w.heap.size + 1) _ _) (fun j hj e => by have := hbs _ hj; cases e; omega)).grown (set_grown' _ (w.heap.size + 1) _ _) (fun j hj e => by have := hbs _ hj; cases e; omega)
end Go.Proofs.Ytllmbbaffhpheaa.H
