/- isOrder alone. The code of a complex. The code of a complex and a thunk. Rows of numbers that a sort has turned. The laying of slices.Sort at numbers (printed by a tool of the kit at this dump). slices.Sort at numbers. RenumberComplex of the program, at an order. RenumberComplex of the program, at an order: the walk. Isomorphisms, one behind the other: the plain law. What is done at an isomorphism: the closures of CountAutomorphisms and FindIsomorphism. Isomorphisms of the program: a list that is whole. What is known of a world is carried to the next one: the words of the printed laws. -/
import Derived.Sort.Row
import Derived.Sort.Grow
import Derived.Shelf.SlGeneric
import Derived.Shelf.SlLaysNS
import Derived.Ground.SlgnProg
import Derived.Test.YthbkboigbkadjaaProg
import Derived.Shelf.SortG.Plain
import Derived.Shelf.SortG.SortNone
import Derived.Test.YthbkboigbkadjaaKFnExactFindIsomorphism1
import Derived.Test.YthbkboigbkadjaaKFnExactFindIsomorphism2
import Derived.Test.YthbkboigbkadjaaKFnExactFindIsomorphism3
import Derived.Test.YthbkboigbkadjaaKFnExactFindIsomorphism4
import Derived.Test.YthbkboigbkadjaaKFnExactFindIsomorphism5
import Derived.Test.YthbkboigbkadjaaKFnExactFindIsomorphism6

namespace Go.Proofs.Ythbkboigbkadjaa.H
open Go.RowKit Go.Proofs.YthbkboigbkadjaaW.PrintWords Go.Proofs.YthbkboigbkadjaaW.PrintLast Go.Proofs.YthbkboigbkadjaaW.PrintMore
set_option linter.unusedVariables false
set_option linter.unusedSimpArgs false

set_option maxRecDepth 100000 in
set_option maxHeartbeats 8000000 in
theorem len64 (x : Nat) (h1 : 1 ≤ x) (h2 : x < 64) (w : World) : Calls Try.prog 176 #[.int .u64 x] w fun e w' => e = .returned (.int .i64 ((Nat.log2 x : Nat) + 1 : Int)) ∧ Below w.heap.size w w' := by
  rcases (by omega : x = 1 ∨ x = 2 ∨ x = 3 ∨ x = 4 ∨ x = 5 ∨ x = 6 ∨ x = 7 ∨ x = 8 ∨ x = 9 ∨ x = 10 ∨ x = 11 ∨ x = 12 ∨ x = 13 ∨ x = 14 ∨ x = 15 ∨ x = 16 ∨ x = 17 ∨ x = 18 ∨ x = 19 ∨ x = 20 ∨ x = 21 ∨ x = 22 ∨ x = 23 ∨ x = 24 ∨ x = 25 ∨ x = 26 ∨ x = 27 ∨ x = 28 ∨ x = 29 ∨ x = 30 ∨ x = 31 ∨ x = 32 ∨ x = 33 ∨ x = 34 ∨ x = 35 ∨ x = 36 ∨ x = 37 ∨ x = 38 ∨ x = 39 ∨ x = 40 ∨ x = 41 ∨ x = 42 ∨ x = 43 ∨ x = 44 ∨ x = 45 ∨ x = 46 ∨ x = 47 ∨ x = 48 ∨ x = 49 ∨ x = 50 ∨ x = 51 ∨ x = 52 ∨ x = 53 ∨ x = 54 ∨ x = 55 ∨ x = 56 ∨ x = 57 ∨ x = 58 ∨ x = 59 ∨ x = 60 ∨ x = 61 ∨ x = 62 ∨ x = 63) with rfl | rfl | rfl | rfl | rfl | rfl | rfl | rfl | rfl | rfl | rfl | rfl | rfl | rfl | rfl | rfl | rfl | rfl | rfl | rfl | rfl | rfl | rfl | rfl | rfl | rfl | rfl | rfl | rfl | rfl | rfl | rfl | rfl | rfl | rfl | rfl | rfl | rfl | rfl | rfl | rfl | rfl | rfl | rfl | rfl | rfl | rfl | rfl | rfl | rfl | rfl | rfl | rfl | rfl | rfl | rfl | rfl | rfl | rfl | rfl | rfl | rfl | rfl
  all_goals
    go_enter Try.func176, Try.ntmps176
    go_wp2
    go_ret
    exact ⟨by kernel_rfl, by (repeat (first | (with_reducible exact Below.refl _ _) | (with_reducible assumption) | (with_reducible refine below_step ?_ (by assumption)) | (with_reducible apply below_alloc) | (with_reducible apply below_drewN)))⟩

theorem seenTo_snoc (o : List Int) (v : Int) : seenTo (o ++ [v]) = seenTo o ||| 2 ^ v.toNat := by unfold seenTo; rw [List.foldl_append]; rfl
theorem seenTo_lt : ∀ (o : List Int), (∀ v ∈ o, v ≤ 5) → seenTo o < 64 := by
  intro o
  unfold seenTo
  have : ∀ (o : List Int) (s : Nat), s < 64 → (∀ v ∈ o, v ≤ 5) → o.foldl (fun s v => s ||| 2 ^ v.toNat) s < 64 := by
    intro o
    induction o with
    | nil => intro s hs _; exact hs
    | cons a r ih =>
      intro s hs h
      refine ih _ ?_ (fun v hv => h v (List.mem_cons_of_mem _ hv))
      have ha := h a List.mem_cons_self
      have h2 : 2 ^ a.toNat < 2 ^ 6 := Nat.pow_lt_pow_right (by decide) (by omega)
      exact Nat.or_lt_two_pow (n := 6) hs h2
  exact this o 0 (by decide)

theorem mem_of_getD {xs : List Int} {i : Nat} {x : Int} (hi : i < xs.length) (h : xs.getD i 0 = x) : x ∈ xs := by
  rw [← h, List.getD_eq_getElem?_getD, List.getElem?_eq_getElem hi]; simp
theorem take_snoc {xs : List Int} {i : Nat} {y : Int} (h : i < xs.length) (hy : xs.getD i 0 = y) : xs.take (i + 1) = xs.take i ++ [y] := take_get h hy
set_option maxRecDepth 100000 in
set_option maxHeartbeats 2000000 in
theorem isOrder (v : Value) (o : List Int) (n : Nat) (h1 : 1 ≤ n) (hn : n ≤ 6) (w : World) (hr : ReadI w v o) :
    Calls Try.prog 157 #[v, .int .i64 n] w fun e w' => e = .returned (.bool (ordOk n o)) ∧ Below w.heap.size w w' := by
  have hlen := hr.len
  obtain ⟨A1, d1, rfl, hcc, hr⟩ := hr
  have HR := Aside0.mk hr
  have hsh := pow_wrap n (by omega)
  have hb64 : 2 ≤ 2 ^ n ∧ 2 ^ n ≤ 64 := by
    rcases (by omega : n = 1 ∨ n = 2 ∨ n = 3 ∨ n = 4 ∨ n = 5 ∨ n = 6) with rfl | rfl | rfl | rfl | rfl | rfl <;> decide
  obtain ⟨N, hN⟩ : ∃ N : Nat, N = 2 ^ n := ⟨_, rfl⟩
  have HN := Aside0.mk hN
  rw [← hN] at hsh hb64
  clear hr hcc hN
  go_enter Try.func157, Try.ntmps157
  go_wp2
  go_loopw [5, 10] (fun s5 s10 wr => ∃ i : Nat, s10 = .int .i64 i ∧ i ≤ o.length ∧ s5 = .int .i64 (seenTo (o.take i) : Nat) ∧ Aside0 (∀ x ∈ o.take i, inTree n x = true) ∧ Aside0 (Below w.heap.size w wr)) (fun _ s10 _ => o.length - (intOf s10).toNat)
  case atStart => exact ⟨0, rfl, Nat.zero_le _, rfl, ⟨fun x hx => by simp at hx⟩, ⟨Below.refl _ _⟩⟩
  case round =>
    obtain ⟨i, rfl, hi, rfl, HI, HB⟩ := hrel
    have HS : Aside0 (seenTo (o.take i) < 64) := ⟨seenTo_lt _ (fun x hx => by have := HI.out x hx; unfold inTree at this; simp at this; omega)⟩
    by_cases hlt : i < o.length
    · obtain ⟨ad, y, rfl, hcell, HY⟩ := ReadI.get (Kd.C_below HR.out HB.out) hlt
      cases hin : (decide (0 ≤ y) && decide (y ≤ (n : Int) - 1)) with
      | false =>
        have HA : Aside0 (ordOk n o = false) := ⟨by
          unfold ordOk
          rw [show o.all (inTree n) = false from List.all_eq_false.2 ⟨y, mem_of_getD hlt HY.out, by unfold inTree; rw [hin]; decide⟩, Bool.false_and]⟩
        go_wp2_with (first | (go_at_call 98; refine (within _ _ _ _).mono ?_; rintro e w2 ⟨rfl, hb⟩; rw [hin]))
        go_ret
        exact ⟨by rw [HA.out]; rfl, HB.out.trans (hb.mono HB.out.size)⟩
      | true =>
        have hy := hin
        simp only [Bool.and_eq_true, decide_eq_true_eq] at hy
        obtain ⟨p, rfl⟩ : ∃ p : Nat, y = p := ⟨y.toNat, by omega⟩
        have HT : Aside0 (seenTo (o.take (i + 1)) = seenTo (o.take i) ||| 2 ^ p) := ⟨by rw [take_snoc hlt HY.out, seenTo_snoc, Int.toNat_natCast]⟩
        have HI2 : Aside0 (∀ x ∈ o.take (i + 1), inTree n x = true) := ⟨fun x hx => by
          rw [take_snoc hlt HY.out, List.mem_append, List.mem_singleton] at hx
          rcases hx with hx | rfl
          · exact HI.out x hx
          · unfold inTree; exact hin⟩
        have hp6 : p < 6 := by omega
        have hshp := pow_wrap p (by omega)
        have hpp : 2 ^ p < 64 := by have := Nat.pow_lt_pow_right (a := 2) (by decide) hp6; omega
        have hs64 := HS.out
        obtain ⟨S, hS⟩ : ∃ S, S = seenTo (o.take i) := ⟨_, rfl⟩
        rw [← hS] at HT hs64 ⊢
        obtain ⟨P, hP⟩ : ∃ P, P = 2 ^ p := ⟨_, rfl⟩
        rw [← hP] at HT hshp hpp
        have hor := or_i64 S P (by omega) (by omega)
        clear hS hP hy
        go_wp2_with (first | (go_at_call 98; refine (within _ _ _ _).mono ?_; rintro e w2 ⟨rfl, hb⟩; rw [hin]))
        go_roundw
        case rel => exact ⟨i + 1, by go_num, by omega, by rw [HT.out], HI2, ⟨HB.out.trans (hb.mono HB.out.size)⟩⟩
        case measure => simp [intOf]; omega
    · have e : i = o.length := by omega
      have hall : o.all (inTree n) = true := by
        rw [List.all_eq_true]
        have := HI.out
        rw [e, List.take_length] at this
        exact this
      have HA : Aside0 (ordOk n o = (decide (o.length = n) && decide (seenTo (o.take i) = N - 1))) := ⟨by unfold ordOk; rw [hall, Bool.true_and, e, List.take_length, HN.out]⟩
      have hs64 := HS.out
      obtain ⟨S, hS⟩ : ∃ S, S = seenTo (o.take i) := ⟨_, rfl⟩
      rw [← hS] at HA hs64 ⊢
      clear hS hall
      by_cases hl : o.length = n
      · have hlb : ((o.length : Int) == (n : Int)) = true := by rw [beq_iff_eq]; omega
        have HE : Aside0 ((((S : Nat) : Int) == (N : Int) - 1) = decide (S = N - 1)) := ⟨by rw [Bool.eq_iff_iff, beq_iff_eq, decide_eq_true_eq]; omega⟩
        have HL := Aside0.mk hl
        clear hl e
        go_wp2_with (first | (go_at_call 109; refine (length_any _ _ _ _).mono ?_; rintro e w2 ⟨rfl, hb⟩))
        go_ret
        exact ⟨by rw [HA.out, decide_eq_true HL.out, Bool.true_and, ← HE.out]; rfl, HB.out.trans (hb.mono HB.out.size)⟩
      · have hlb : ((o.length : Int) == (n : Int)) = false := by simp; omega
        have HL := Aside0.mk hl
        clear hl e
        go_wp2_with (first | (go_at_call 109; refine (length_any _ _ _ _).mono ?_; rintro e w2 ⟨rfl, hb⟩))
        go_ret
        exact ⟨by rw [HA.out, decide_eq_false HL.out, Bool.false_and]; rfl, HB.out.trans (hb.mono HB.out.size)⟩
end Go.Proofs.Ythbkboigbkadjaa.H

namespace Go.Proofs.Ythbkboigbkadjaa.H
open Go.RowKit Go.Proofs.YthbkboigbkadjaaW.PrintWords Go.Proofs.YthbkboigbkadjaaW.PrintLast Go.Proofs.YthbkboigbkadjaaW.PrintMore
set_option linter.unusedVariables false
set_option linter.unusedSimpArgs false

/-- a function value of nothing that answers b -/
def ThunkB (w : World) (fv : Value) (b : Bool) : Prop :=
  ∃ g first caps, fv = .func (.func g) first caps ∧ Enters g ∧ ∀ w1, Below w.heap.size w w1 → Calls Try.prog g (first ++ #[] ++ caps) w1 fun e w2 => e = .returned (.bool b) ∧ Below w1.heap.size w1 w2
theorem ThunkB.below {w w' : World} {fv : Value} {b : Bool} (h : ThunkB w fv b) (hb : Below w.heap.size w w') : ThunkB w' fv b := by
  obtain ⟨g, first, caps, rfl, hent, hp⟩ := h
  exact ⟨g, first, caps, rfl, hent, fun w1 h1 => hp w1 (hb.trans (h1.mono hb.size))⟩

theorem always (w : World) : Calls Try.prog 50 #[] w fun e w' => e = .returned (.bool true) ∧ Below w.heap.size w w' := by
  go_enter Try.func50, Try.ntmps50
  go_wp2
  go_ret
  exact ⟨rfl, Below.refl _ _⟩
theorem alwaysB (w : World) : ThunkB w (.func (.func 50) #[] #[]) true :=
  ⟨_, _, _, rfl, Enters.mk' Try.func50 rfl rfl, fun w1 _ => always w1⟩

set_option maxHeartbeats 2000000 in
theorem complexCode2 (a : Int) (ku : Value) (xs : List Int) (fv : Value) (r : Bool) (w : World) (hk : ReadI w ku xs) (hf : cxOk a xs = true → ThunkB w fv r) (hfv : ∃ g first caps, fv = .func (.func g) first caps) :
    Calls Try.prog 49 #[cx a ku, fv] w fun e w' => e = .returned (.int .i64 (if cxOk a xs then (if r then 0 else 2) else 1)) ∧ Below w.heap.size w w' := by
  obtain ⟨w1, hw1⟩ : ∃ w1, w1 = w.alloc (.cells #[.int .i64 a, ku] 28) := ⟨_, rfl⟩
  have hB : Below w.heap.size w w1 := by rw [hw1]; exact Below.alloc (Below.refl _ _) (Nat.le_refl _) _
  have c0 : w1.cell? ⟨w.heap.size, 0, none⟩ = some (.int .i64 a) := by rw [hw1]; simp
  have c1 : w1.cell? ⟨w.heap.size, 1, none⟩ = some ku := by rw [hw1]; simp
  have HK := Aside0.mk (hk.below hB)
  have HB := Aside0.mk hB
  obtain ⟨g, first, caps, rfl⟩ := hfv
  have HF := Aside0.mk (fun h => (hf h).below hB)
  obtain ⟨A1, d1, rfl, -⟩ := id hk
  clear hk hf hB
  cases h1 : cxOk a xs with
  | false =>
    go_enter Try.func49, Try.ntmps49
    go_wp2_with (first | (rw [← hw1]; clear hw1; go_at_call 53; refine (isComplex _ _ xs _ HK.out).mono ?_; rintro e w2 ⟨rfl, hb⟩; rw [h1]))
    go_ret
    exact ⟨rfl, HB.out.trans (hb.mono HB.out.size)⟩
  | true =>
    obtain ⟨g', first', caps', e3, hent, hp⟩ := HF.out h1
    cases e3
    have HP := Aside0.mk hp
    clear hp HF
    unfold Enters at hent
    cases r with
    | false =>
      go_enter Try.func49, Try.ntmps49
      go_wp2_with (first | (rw [← hw1]; clear hw1; go_at_call 53; refine (isComplex _ _ xs _ HK.out).mono ?_; rintro e w2 ⟨rfl, hb⟩; rw [h1]; have HB2 := Aside0.mk hb; clear hb) | (refine (HP.out _ HB2.out).mono ?_; rintro e w3 ⟨rfl, hb⟩))
      go_ret
      exact ⟨rfl, HB.out.trans ((HB2.out.trans (hb.mono HB2.out.size)).mono HB.out.size)⟩
    | true =>
      go_enter Try.func49, Try.ntmps49
      go_wp2_with (first | (rw [← hw1]; clear hw1; go_at_call 53; refine (isComplex _ _ xs _ HK.out).mono ?_; rintro e w2 ⟨rfl, hb⟩; rw [h1]; have HB2 := Aside0.mk hb; clear hb) | (refine (HP.out _ HB2.out).mono ?_; rintro e w3 ⟨rfl, hb⟩))
      go_ret
      exact ⟨rfl, HB.out.trans ((HB2.out.trans (hb.mono HB2.out.size)).mono HB.out.size)⟩

end Go.Proofs.Ythbkboigbkadjaa.H

namespace Go.Proofs.Ythbkboigbkadjaa.H
open Go.RowKit Go.Proofs.YthbkboigbkadjaaW.PrintWords Go.Proofs.YthbkboigbkadjaaW.PrintLast Go.Proofs.YthbkboigbkadjaaW.PrintMore
set_option linter.unusedVariables false
set_option linter.unusedSimpArgs false

set_option maxHeartbeats 2000000 in
theorem complexCode3 (a : Int) (ku : Value) (xs : List Int) (fv : Value) (r : Bool) (w : World) (hk : ReadI w ku xs) (hf : cxOk a xs = true → ThunkB w fv r) (hfv : ∃ g first caps, fv = .func (.func g) first caps) :
    Calls Try.prog 49 #[cx a ku, fv] w fun e w' => e = .returned (.int .i64 (if cxOk a xs then (if r then 0 else 2) else 1)) ∧ Below w.heap.size w w' := by
  obtain ⟨w1, hw1⟩ : ∃ w1, w1 = w.alloc (.cells #[.int .i64 a, ku] 28) := ⟨_, rfl⟩
  have hB : Below w.heap.size w w1 := by rw [hw1]; exact Below.alloc (Below.refl _ _) (Nat.le_refl _) _
  have c0 : w1.cell? ⟨w.heap.size, 0, none⟩ = some (.int .i64 a) := by rw [hw1]; simp
  have c1 : w1.cell? ⟨w.heap.size, 1, none⟩ = some ku := by rw [hw1]; simp
  have HK := Aside0.mk (hk.below hB)
  have HB := Aside0.mk hB
  obtain ⟨g, first, caps, rfl⟩ := hfv
  have HF := Aside0.mk (fun h => (hf h).below hB)
  obtain ⟨A1, d1, rfl, -⟩ := id hk
  clear hk hf hB
  cases h1 : cxOk a xs with
  | false =>
    go_enter Try.func49, Try.ntmps49
    go_wp2_with (first | (rw [← hw1]; clear hw1; go_at_call 53; refine (isComplex _ _ xs _ HK.out).mono ?_; rintro e w2 ⟨rfl, hb⟩; rw [h1]))
    go_ret
    exact ⟨rfl, HB.out.trans (hb.mono HB.out.size)⟩
  | true =>
    obtain ⟨g', first', caps', e3, hent, hp⟩ := HF.out h1
    cases e3
    have HP := Aside0.mk hp
    clear hp HF
    unfold Enters at hent
    cases r with
    | false =>
      go_enter Try.func49, Try.ntmps49
      go_wp2_with (first | (rw [← hw1]; clear hw1; go_at_call 53; refine (isComplex _ _ xs _ HK.out).mono ?_; rintro e w2 ⟨rfl, hb⟩; rw [h1]; have HB2 := Aside0.mk hb; clear hb) | (refine (HP.out _ HB2.out).mono ?_; rintro e w3 ⟨rfl, hb⟩))
      go_ret
      exact ⟨rfl, HB.out.trans ((HB2.out.trans (hb.mono HB2.out.size)).mono HB.out.size)⟩
    | true =>
      go_enter Try.func49, Try.ntmps49
      go_wp2_with (first | (rw [← hw1]; clear hw1; go_at_call 53; refine (isComplex _ _ xs _ HK.out).mono ?_; rintro e w2 ⟨rfl, hb⟩; rw [h1]; have HB2 := Aside0.mk hb; clear hb) | (refine (HP.out _ HB2.out).mono ?_; rintro e w3 ⟨rfl, hb⟩))
      go_ret
      exact ⟨rfl, HB.out.trans ((HB2.out.trans (hb.mono HB2.out.size)).mono HB.out.size)⟩
end Go.Proofs.Ythbkboigbkadjaa.H

namespace Go.Proofs.Ythbkboigbkadjaa.H
open Go.RowKit Go.Sort Go.Proofs.YthbkboigbkadjaaW.PrintWords Go.Proofs.YthbkboigbkadjaaW.PrintLast Go.Proofs.YthbkboigbkadjaaW.PrintMore
set_option linter.unusedVariables false
set_option linter.unusedSimpArgs false

theorem put_takeI (d : Array Int) (c : Array Value) (h : d.size ≤ c.size) : (putCells (Value.int .i64) 0 d c).toList.take d.size = d.toList.map (Value.int .i64) := by
  apply List.ext_getElem?
  intro t
  by_cases ht : t < d.size
  · rw [List.getElem?_take_of_lt ht]
    unfold putCells
    rw [Array.getElem?_toList, Array.getElem?_mapIdx, Array.getElem?_eq_getElem (by omega), List.getElem?_map, Array.getElem?_toList, Array.getElem?_eq_getElem ht]
    simp only [Option.map_some, Nat.zero_add, Nat.zero_le, true_and, ht, if_true, Nat.sub_zero]
    rw [getElem!_pos d t ht]
  · rw [List.getElem?_eq_none (by simp; omega), List.getElem?_eq_none (by simp; omega)]
theorem OwnI.holds {b : Nat} {w : World} {g cap n : Nat} {xs : List Int} (h : OwnI b w (.slice (some ⟨g, 0, none⟩) n cap) xs) : Holds (Value.int .i64) w g 0 xs.toArray ∧ n = xs.length := by
  have hn : n = xs.length := by
    obtain ⟨A, c, e, -⟩ := h.read
    injection e
  subst hn
  refine ⟨?_, rfl⟩
  intro t ht
  rw [List.size_toArray] at ht
  obtain ⟨-, hf⟩ := OwnI.slot h ht
  obtain ⟨A, c, e, -, hr⟩ := h.read
  cases e
  obtain ⟨ad, e2, hc⟩ := ReadI.at_ hr ht
  cases e2
  rw [add_mk] at hc
  rw [Nat.zero_add]
  refine ⟨?_, hf⟩
  rw [hc, getElem!_pos xs.toArray t (by rw [List.size_toArray]; exact ht)]
  simp [List.getD_eq_getElem?_getD, ht]
theorem OwnI.sorted {b : Nat} {w : World} {g cap : Nat} {xs ys : List Int} (h : OwnI b w (.slice (some ⟨g, 0, none⟩) xs.length cap) xs) (hl : ys.length = xs.length) (n : Nat) (os : Array Obj) :
    OwnI b (grow (putRow (Value.int .i64) (Sort.ahead w n) g 0 ys.toArray) os) (.slice (some ⟨g, 0, none⟩) xs.length cap) ys := by
  have hlt := h.lt g rfl
  have ho := Kd.own_of_R h
  obtain ⟨hl2, h | ⟨g', cap', cur, e, hb, hcur, hn, hm, hsz, htk⟩⟩ := ho
  · exact absurd h.1 (by simp)
  · cases e
    rw [← hl]
    refine OwnI.of_row (b := b) ?_ (Nat.le_refl _)
    rw [hl]
    refine ⟨by rw [List.length_map, hl, Nat.mul_one], .inr ⟨g, cap, putCells (Value.int .i64) 0 ys.toArray cur, rfl, hb, ?_, hn, hm, by unfold putCells; rw [Array.size_mapIdx]; exact hsz, ?_⟩⟩
    · unfold Go.Sort.grow putRow mapBlock Go.Sort.ahead
      simp only
      rw [Array.getElem?_append_left (by simpa using hlt), Array.getElem?_modify, if_pos rfl, hcur]
      rfl
    · have h1 := put_takeI ys.toArray cur (by rw [List.size_toArray, hl]; omega)
      rw [List.size_toArray, hl] at h1
      rw [Nat.mul_one, h1]
theorem below_sortedI {b : Nat} (w : World) {g : Nat} (hb : b ≤ g) (hg : g < w.heap.size) (n : Nat) (d : Array Int) (os : Array Obj) : Below b w (grow (putRow (Value.int .i64) (Sort.ahead w n) g 0 d) os) := by
  unfold Go.Sort.grow putRow mapBlock Go.Sort.ahead
  refine ⟨rfl, rfl, rfl, by simp, fun k hk => ?_⟩
  simp only
  rw [Array.getElem?_append_left (by simp; omega), Array.getElem?_modify, if_neg (by omega)]
end Go.Proofs.Ythbkboigbkadjaa.H

namespace Go.Proofs
open Go.Shelf
def Try.sortInts_ren : Go.Shelf.Ren := ⟨fun | 53 => 131 | 64 => 124 | 63 => 181 | 78 => 175 | 79 => 176 | 70 => 206 | 71 => 207 | 72 => 208 | 73 => 209 | 74 => 210 | 75 => 211 | 59 => 165 | 76 => 212 | 77 => 213 | 88 => 228 | 89 => 201 | 90 => 202 | 91 => 229 | 92 => 230 | 68 => 191 | 96 => 234 | n => n, fun | 22 => 22 | 23 => 2 | 3 => 3 | 51 => 129 | 0 => 0 | 67 => 162 | 69 => 65 | 4 => 4 | 61 => 156 | 60 => 155 | 44 => 125 | 5 => 5 | 9 => 9 | 75 => 179 | 79 => 183 | 83 => 198 | 84 => 199 | n => n, fun | n => n⟩
theorem Try.sortInts : Go.Proofs.SlLaysN.n53 Try.prog Try.sortInts_ren := {
  mixed := by kernel_rfl
  f53 := ⟨Try.f131.name, by decide, Try.func131.trans (congrArg some (by kernel_rfl))⟩
  f59 := ⟨Try.f165.name, by decide, Try.func165.trans (congrArg some (by kernel_rfl))⟩
  f63 := ⟨Try.f181.name, by decide, Try.func181.trans (congrArg some (by kernel_rfl))⟩
  f64 := Try.func124.trans (congrArg some (by kernel_rfl))
  f68 := ⟨Try.f191.name, by decide, Try.func191.trans (congrArg some (by kernel_rfl))⟩
  f70 := ⟨Try.f206.name, by decide, Try.func206.trans (congrArg some (by kernel_rfl))⟩
  f71 := ⟨Try.f207.name, by decide, Try.func207.trans (congrArg some (by kernel_rfl))⟩
  f72 := ⟨Try.f208.name, by decide, Try.func208.trans (congrArg some (by kernel_rfl))⟩
  f73 := ⟨Try.f209.name, by decide, Try.func209.trans (congrArg some (by kernel_rfl))⟩
  f74 := ⟨Try.f210.name, by decide, Try.func210.trans (congrArg some (by kernel_rfl))⟩
  f75 := ⟨Try.f211.name, by decide, Try.func211.trans (congrArg some (by kernel_rfl))⟩
  f76 := ⟨Try.f212.name, by decide, Try.func212.trans (congrArg some (by kernel_rfl))⟩
  f77 := ⟨Try.f213.name, by decide, Try.func213.trans (congrArg some (by kernel_rfl))⟩
  f78 := Try.func175.trans (congrArg some (by kernel_rfl))
  f79 := Try.func176.trans (congrArg some (by kernel_rfl))
  f88 := ⟨Try.f228.name, by decide, Try.func228.trans (congrArg some (by kernel_rfl))⟩
  f89 := Try.func201.trans (congrArg some (by kernel_rfl))
  f90 := Try.func202.trans (congrArg some (by kernel_rfl))
  f91 := ⟨Try.f229.name, by decide, Try.func229.trans (congrArg some (by kernel_rfl))⟩
  f92 := ⟨Try.f230.name, by decide, Try.func230.trans (congrArg some (by kernel_rfl))⟩
  f96 := ⟨Try.f234.name, by decide, Try.func234.trans (congrArg some (by kernel_rfl))⟩
  t0 := Try.underlying0
  a0 := Try.isAgg0
  z0 := Try.sizeOf0
  v0 := Try.zeroValue0
  t3 := Try.underlying3
  a3 := Try.isAgg3
  z3 := Try.sizeOf3
  v3 := Try.zeroValue3
  t4 := Try.underlying4
  a4 := Try.isAgg4
  z4 := Try.sizeOf4
  v4 := Try.zeroValue4
  t5 := Try.underlying5
  a5 := Try.isAgg5
  z5 := Try.sizeOf5
  v5 := Try.zeroValue5
  t9 := Try.underlying9
  a9 := Try.isAgg9
  z9 := Try.sizeOf9
  v9 := Try.zeroValue9
  t22 := Try.underlying22
  a22 := Try.isAgg22
  z22 := Try.sizeOf22
  v22 := Try.zeroValue22
  t23 := Try.underlying2
  a23 := Try.isAgg2
  z23 := Try.sizeOf2
  v23 := Try.zeroValue2
  t44 := Try.underlying125
  a44 := Try.isAgg125
  z44 := Try.sizeOf125
  v44 := Try.zeroValue125
  t51 := Try.underlying129
  a51 := Try.isAgg129
  z51 := Try.sizeOf129
  v51 := Try.zeroValue129
  t60 := Try.underlying155
  a60 := Try.isAgg155
  z60 := Try.sizeOf155
  v60 := Try.zeroValue155
  t61 := Try.underlying156
  a61 := Try.isAgg156
  z61 := Try.sizeOf156
  v61 := Try.zeroValue156
  t67 := Try.underlying162
  a67 := Try.isAgg162
  z67 := Try.sizeOf162
  v67 := Try.zeroValue162
  t69 := Try.underlying65
  a69 := Try.isAgg65
  z69 := Try.sizeOf65
  v69 := Try.zeroValue65
  t75 := Try.underlying179
  a75 := Try.isAgg179
  z75 := Try.sizeOf179
  v75 := Try.zeroValue179
  t79 := Try.underlying183
  a79 := Try.isAgg183
  z79 := Try.sizeOf183
  v79 := Try.zeroValue183
  t83 := Try.underlying198
  a83 := Try.isAgg198
  z83 := Try.sizeOf198
  v83 := Try.zeroValue198
  t84 := Try.underlying199
  a84 := Try.isAgg199
  z84 := Try.sizeOf199
  v84 := Try.zeroValue199 }
end Go.Proofs

namespace Go.Proofs.Ythbkboigbkadjaa.H
open Go.RowKit Go.Sort Go.Proofs.YthbkboigbkadjaaW.PrintWords Go.Proofs.YthbkboigbkadjaaW.PrintLast Go.Proofs.YthbkboigbkadjaaW.PrintMore
set_option linter.unusedVariables false
set_option linter.unusedSimpArgs false

/-- numbers in order -/
def sortN (xs : List Int) : List Int := xs.mergeSort fun x y => decide (x ≤ y)
theorem sortN_eq {xs ys : List Int} (hp : ys.Perm xs) (hq : ys.Pairwise (· ≤ ·)) : sortN xs = ys := by
  unfold sortN
  refine List.Perm.eq_of_pairwise (le := fun x y => decide (x ≤ y) = true) ?_ ?_ ?_ ((List.mergeSort_perm _ _).trans hp.symm)
  · intro a b _ _ h1 h2
    simp only [decide_eq_true_eq] at h1 h2
    omega
  · exact List.pairwise_mergeSort (fun a b c h1 h2 => by simp only [decide_eq_true_eq] at *; omega) (fun a b => by
      rw [Bool.or_eq_true, decide_eq_true_eq, decide_eq_true_eq]; omega) _
  · exact hq.imp (fun h => decide_eq_true h)

set_option maxRecDepth 100000 in
set_option maxHeartbeats 2000000 in
theorem sortInts (base : Nat) (w : World) (v : Value) (xs : List Int) (ho : OwnI base w v xs) (hl : xs.length ≤ 1000000) :
    Calls Try.prog 131 #[v] w fun e w' => e = .returned (.tuple #[]) ∧ OwnI base w' v (sortN xs) ∧ Below base w w' := by
  have hown := ho
  obtain ⟨-, ⟨rfl, h0⟩ | ⟨g, cap, cur, rfl, -⟩⟩ := Kd.own_of_R ho
  · have hp : xs = [] := List.length_eq_zero_iff.1 h0
    subst hp
    exact (AnyG.slices_Sort_int_none Try.sortInts none 0 w).mono fun _ _ ⟨he, hw⟩ => ⟨he, by rw [hw, show sortN [] = [] by unfold sortN; simp]; exact OwnI.nil _ _, by rw [hw]; exact Below.refl _ _⟩
  · obtain ⟨hh, -⟩ := hown.holds
    exact (AnyG.slices_Sort_int Try.sortInts g 0 cap xs w hh (hown.lt g rfl) (by omega)).mono fun _ _ ⟨he, n, os, hw⟩ =>
      ⟨he, by rw [hw]; exact hown.sorted (by rw [List.length_mergeSort]) n os, by rw [hw]; exact below_sortedI w (hown.base g rfl) (hown.lt g rfl) n _ os⟩
end Go.Proofs.Ythbkboigbkadjaa.H

namespace Go.Proofs.Ythbkboigbkadjaa.H
open Go.RowKit Go.Proofs.YthbkboigbkadjaaW.PrintWords Go.Proofs.YthbkboigbkadjaaW.PrintLast Go.Proofs.YthbkboigbkadjaaW.PrintMore
set_option linter.unusedVariables false
set_option linter.unusedSimpArgs false

set_option maxRecDepth 100000 in
set_option maxHeartbeats 1000000 in
theorem renThunk (w : World) (bp bk : Nat) (v : Value) (o : List Int) (n : Nat) (h1 : 1 ≤ n) (hn : n ≤ 6) (hr : ReadI w v o) (h0 : w.cell? ⟨bp, 0, none⟩ = some v) (h2 : w.cell? ⟨bk, 0, none⟩ = some (.int .i64 n)) :
    ThunkB w (.func (.func 156) #[] #[.pointer (some ⟨bp, 0, none⟩), .pointer (some ⟨bk, 0, none⟩)]) (ordOk n o) := by
  refine ⟨_, _, _, rfl, Enters.mk' Try.func156 rfl rfl, fun w1 hb => ?_⟩
  have c0 := pw_cell_below hb h0
  have c1 := pw_cell_below hb h2
  have HO := Aside0.mk (isOrder v o n h1 hn w1 (hr.below hb))
  obtain ⟨A1, d1, rfl, -⟩ := id hr
  clear hb h0 h2 hr
  show Calls _ _ #[_, _] _ _
  go_enter Try.func156, Try.ntmps156
  go_wp2_with (first | (go_at_call 157; refine HO.out.mono ?_; rintro e w2 ⟨rfl, hb⟩))
  go_ret
  exact ⟨rfl, hb⟩
end Go.Proofs.Ythbkboigbkadjaa.H

namespace Go.Proofs.Ythbkboigbkadjaa.H
open Go.RowKit Go.Proofs.YthbkboigbkadjaaW.PrintWords Go.Proofs.YthbkboigbkadjaaW.PrintLast Go.Proofs.YthbkboigbkadjaaW.PrintMore
set_option linter.unusedVariables false
set_option linter.unusedSimpArgs false

def imgL (xs p : List Int) : List Int := xs.map fun x => ((img x.toNat p : Nat) : Int)
theorem imgL_next {xs p : List Int} {k z : Nat} (h : k < xs.length) (hz : xs.getD k 0 = (z : Int)) : imgL (xs.take (k + 1)) p = imgL (xs.take k) p ++ [((img z p : Nat) : Int)] := by
  unfold imgL
  rw [take_get h hz, List.map_append]
  rfl
theorem ord_dom {n : Nat} {p : List Int} (h : ordOk n p = true) : p.length = n ∧ ∀ x ∈ p, 0 ≤ x ∧ x ≤ (n : Int) - 1 := by
  unfold ordOk at h
  simp only [Bool.and_eq_true, decide_eq_true_eq] at h
  refine ⟨h.2.1, fun x hx => ?_⟩
  have := List.all_eq_true.1 h.1 x hx
  unfold inTree at this
  simpa using this

set_option maxRecDepth 100000 in
set_option maxHeartbeats 4000000 in
theorem renumber (n : Nat) (ku : Value) (xs : List Int) (v : Value) (p : List Int) (w : World) (hk : ReadI w ku xs) (hv : ReadI w v p) (hx : cxOk n xs = true) (hc : Cx n xs) (ho : ordOk n p = true) :
    Calls Try.prog 110 #[cx n ku, v] w fun e w' => ∃ u, e = .returned (.tuple #[cx n u, .int .i64 0]) ∧ OwnI w.heap.size w' u (sortN (imgL xs p)) ∧ Below w.heap.size w w' := by
  obtain ⟨w0, hw0⟩ : ∃ w0, w0 = (w.alloc (.cells #[.int .i64 n, ku] 28)).alloc (.cells #[v] 22) := ⟨_, rfl⟩
  obtain ⟨w1, hw1⟩ : ∃ w1, w1 = w0.alloc (.cells #[.int .i64 0, .slice none 0 0] 28) := ⟨_, rfl⟩
  have hs0 : w0.heap.size = w.heap.size + 1 + 1 := by rw [hw0]; simp
  have hs1 : w1.heap.size = w.heap.size + 1 + 1 + 1 := by rw [hw1]; simp [hs0]
  have hB0 : Below w.heap.size w w0 := by rw [hw0]; exact ((Below.refl _ w).alloc (Nat.le_refl _) _).alloc (by simp) _
  have hB1 : Below w0.heap.size w0 w1 := by rw [hw1]; exact Below.alloc (Below.refl _ _) (Nat.le_refl _) _
  have hB : Below w.heap.size w w1 := hB0.trans (hB1.mono hB0.size)
  have c0 : w1.cell? ⟨w.heap.size, 0, none⟩ = some (.int .i64 n) := pw_cell_below hB1 (by rw [hw0]; simp)
  have c1 : w1.cell? ⟨w.heap.size, 1, none⟩ = some ku := pw_cell_below hB1 (by rw [hw0]; simp)
  have c2 : w1.cell? ⟨w.heap.size + 1, 0, none⟩ = some v := pw_cell_below hB1 (by rw [hw0]; simp)
  have hbk : w1.heap[w.heap.size + 1 + 1]? = some (.cells #[.int .i64 0, .slice none 0 0] 28) := by rw [hw1, ← hs0]; exact blk_new w0 _
  have HBK := Aside0.mk hbk
  have HB := Aside0.mk hB
  have HS1 := Aside0.mk hs1
  have HKW := Aside0.mk (fun W (h : Below w1.heap.size w1 W) => (hk.below hB).below h)
  have HVW := Aside0.mk (fun W (h : Below w1.heap.size w1 W) => (hv.below hB).below h)
  have hn6 := hc.hi
  obtain ⟨hpl, hpd⟩ := ord_dom ho
  have HM := Aside0.mk (complexCode3 n ku xs _ (ordOk n p) w1 (hk.below hB) (fun _ => renThunk w1 (w.heap.size + 1) w.heap.size v p n hc.lo hn6 (hv.below hB) c2 c0) ⟨_, _, _, rfl⟩)
  rw [hx, ho] at HM
  have HPD := Aside0.mk hpd
  have HPL := Aside0.mk hpl
  have HXB := Aside0.mk hc.bd
  have hxl := hc.len
  obtain ⟨A1, d1, rfl, -⟩ := id hk
  obtain ⟨A2, d2, rfl, -⟩ := id hv
  have hmx : Try.prog.follows .mixedOrders = true := by kernel_rfl
  clear hk hv hB hB0 hB1 hs0 hs1 hbk hpd ho hpl
  subst hw0
  go_enter Try.func110, Try.ntmps110
  go_wp2_with (first | (go_at_call 49; rw [← hw1]; clear hw1; refine HM.out.mono ?_; rintro e w3 ⟨rfl, hb⟩; have c0 := pw_cell_below hb c0; have c1 := pw_cell_below hb c1; have c2 := pw_cell_below hb c2; have HB3 := Aside0.mk hb; have HBK3 := Aside0.mk (blk_below HBK.out hb); have c1x : (w3.alloc (.cells #[.int .i64 n, .slice none 0 0] 28)).cell? ⟨w.heap.size, 1, none⟩ = some (.slice A1 xs.length d1) := pw_cell_below (Below.alloc (Below.refl _ _) (Nat.le_refl _) _) c1; clear hb))
  go_loopw [23] (fun s23 wr => ∃ i : Nat, s23 = .int .i64 i ∧ i ≤ xs.length ∧ (∃ s, Aside0 (wr.heap[w3.heap.size]? = some (.cells #[.int .i64 n, s] 28)) ∧ Aside0 (OwnI (w3.heap.size + 1) wr s (imgL (xs.take i) p))) ∧ Aside0 (Below w3.heap.size w3 wr)) (fun s23 _ => xs.length - (intOf s23).toNat)
  case atStart =>
    refine ⟨0, rfl, Nat.zero_le _, ⟨_, ⟨?_⟩, ⟨OwnI.nil _ _⟩⟩, ⟨?_⟩⟩
    · exact blk_new w3 _
    · exact Below.alloc (Below.refl _ _) (Nat.le_refl _) _
  case round =>
    obtain ⟨k, rfl, hi, ⟨sv, HKb, HO⟩, HBw⟩ := hrel
    have c0 := pw_cell_below HBw.out c0
    have c1 := pw_cell_below HBw.out c1
    have c2 := pw_cell_below HBw.out c2
    obtain ⟨Av, cv, rfl, -⟩ := HO.out.read
    have HB13 := Aside0.mk (HB3.out.trans (HBw.out.mono HB3.out.size))
    have hll : (imgL (xs.take k) p).length ≤ 63 := by unfold imgL; rw [List.length_map, List.length_take]; omega
    by_cases hlt : k < xs.length
    · obtain ⟨A_, c_, e_, -, hcc⟩ := HKW.out _ HB13.out
      cases e_
      obtain ⟨ad, y, e1, hcell, HY⟩ := ReadI.get hcc hlt
      cases e1
      have hyb := HXB.out y (mem_at hlt HY.out)
      obtain ⟨z, rfl⟩ : ∃ z : Nat, y = z := ⟨y.toNat, by omega⟩
      have HNX := Aside0.mk (imgL_next (p := p) hlt HY.out)
      have HIM := Aside0.mk (fun W (h : Below wr.heap.size wr W) => imageOf z (.slice A2 p.length d2) p W (HVW.out W (HB13.out.trans (h.mono HB13.out.size))) (by rw [HPL.out]; exact hn6) (by rw [HPL.out]; have := Nat.two_pow_pos n; omega) (fun x hx => by have := HPD.out x hx; omega))
      obtain ⟨t, ht⟩ : ∃ t, t = img z p := ⟨_, rfl⟩
      rw [← ht] at HNX HIM
      clear ht hcc hyb
      go_wp2
      refine wp_region_tail 6 (fun i => match i with | 0 => fun v _ => v = .pointer (some ⟨w3.heap.size, 1, none⟩) | 1 => fun v _ => v = .slice Av (imgL (xs.take k) p).length cv | 2 => fun v _ => v = .int .i64 (z : Nat) | 3 => fun v _ => v = .slice A2 p.length d2 | 4 => fun v _ => v = .int .i64 (t : Nat) | 5 => fun v W => ∃ b, v = .slice (some ⟨b, 0, none⟩) 1 1 ∧ W.cell? ⟨b, 0, none⟩ = some (.int .i64 (t : Nat)) | _ => fun _ _ => True)
        [0, 1, 0, 0, 12, 28, 63, 127, 255] hmx (by kernel_rfl) ?st ?steps ?rest
      case st =>
        intro i v w1_ w2_ hb
        match i with
        | 0 | 1 | 2 | 3 | 4 => exact id
        | 5 => exact fun ⟨b, e, h⟩ => ⟨b, e, pw_cell_below hb h⟩
        | n + 6 => exact id
      case steps =>
        refine ⟨?_, ?_, ?_, ?_, ?_, ?_, trivial⟩
        · intro s w_ hb hd R hR
          generalize hA : putAll _ 0 s _ = A
          have hR' := hR (.pointer (some ⟨w3.heap.size, 1, none⟩)) _ (Below.refl _ _) rfl
          clear hR hd
          refine opGives_value ?_ hR'
          subst hA
          simp only [dsOf, List.take, List.map_cons, List.map_nil, Option.getD_some, putAll, Act.put, List.setIfInBounds_toArray, List.set_cons_zero, List.set_cons_succ]
          go_simp
        · intro s w_ hb hd R hR
          generalize hA : putAll _ 0 s _ = A
          have e0 : s 0 = _ := hd 0 (by kernel_rfl)
          have c11_ : w_.cell? ⟨w3.heap.size, 1, none⟩ = some (.slice Av (imgL (xs.take k) p).length cv) := blk_cell (blk_below HKb.out hb) 1
          have hR' := hR (.slice Av (imgL (xs.take k) p).length cv) _ (Below.refl _ _) rfl
          clear hR hd
          refine opGives_value ?_ hR'
          subst hA
          simp only [dsOf, List.take, List.map_cons, List.map_nil, Option.getD_some, putAll, Act.put, List.setIfInBounds_toArray, List.set_cons_zero, List.set_cons_succ]
          go_simp
        · intro s w_ hb hd R hR
          generalize hA : putAll _ 0 s _ = A
          have hR' := hR (.int .i64 (z : Nat)) _ (Below.refl _ _) rfl
          clear hR hd
          refine opGives_value ?_ hR'
          subst hA
          simp only [dsOf, List.take, List.map_cons, List.map_nil, Option.getD_some, putAll, Act.put, List.setIfInBounds_toArray, List.set_cons_zero, List.set_cons_succ]
          go_simp
        · intro s w_ hb hd R hR
          generalize hA : putAll _ 0 s _ = A
          have c2_ := pw_cell_below hb c2
          have hR' := hR (.slice A2 p.length d2) _ (Below.refl _ _) rfl
          clear hR hd
          refine opGives_value ?_ hR'
          subst hA
          simp only [dsOf, List.take, List.map_cons, List.map_nil, Option.getD_some, putAll, Act.put, List.setIfInBounds_toArray, List.set_cons_zero, List.set_cons_succ]
          go_simp
        · intro s w_ hb hd R hR
          generalize hA : putAll _ 0 s _ = A
          have e2 : s 2 = _ := hd 2 (by kernel_rfl)
          have e3 : s 3 = _ := hd 3 (by kernel_rfl)
          refine opGives_call (f := 158) (args := #[.int .i64 (z : Nat), .slice A2 p.length d2]) ?_ ?_
          · subst hA
            clear hR hd
            simp only [dsOf, List.take, List.map_cons, List.map_nil, Option.getD_some, putAll, Act.put, List.setIfInBounds_toArray, List.set_cons_zero, List.set_cons_succ]
            go_simp
          clear hA A hd
          refine (HIM.out _ hb).mono ?_
          rintro e w3_ ⟨rfl, hb3⟩
          exact ⟨_, rfl, hR _ _ hb3 rfl⟩
        · intro s w_ hb hd R hR
          generalize hA : putAll _ 0 s _ = A
          have e4 : s 4 = _ := hd 4 (by kernel_rfl)
          have hR' := hR (.slice (some ⟨w_.heap.size, 0, none⟩) 1 1) (w_.alloc (.cells #[.int .i64 (t : Nat)] 2)) (Below.alloc (Below.refl _ _) (Nat.le_refl _) _) ⟨_, rfl, by simp⟩
          clear hR hd
          refine opGives_value ?_ hR'
          subst hA
          simp only [dsOf, List.take, List.map_cons, List.map_nil, Option.getD_some, putAll, Act.put, List.setIfInBounds_toArray, List.set_cons_zero, List.set_cons_succ]
          go_simp
      case rest =>
        intro s9 w9 hb hv
        have e1_ : s9 1 = _ := hv 1 (by decide)
        obtain ⟨b5, e5_, hc5_⟩ : ∃ b, s9 5 = .slice (some ⟨b, 0, none⟩) 1 1 ∧ Go.World.cell? w9 ⟨b, 0, none⟩ = some (.int .i64 (t : Nat)) := hv 5 (by decide)
        clear hv
        simp only [dsOf, List.take, List.map_cons, List.map_nil, Option.getD_some, putAll, Act.put, List.setIfInBounds_toArray, List.set_cons_zero, List.set_cons_succ]
        have HO6 := Aside0.mk (OwnI.below HO.out hb)
        have HKb6 := Aside0.mk (blk_below HKb.out hb)
        have HB6 := Aside0.mk (HBw.out.trans (hb.mono HBw.out.size))
        clear hb
        refine .inl (append_gives (w3.heap.size + 1) (.tmp 28) (.tmp 32) rfl (.slice Av (imgL (xs.take k) p).length cv) (imgL (xs.take k) p) t b5 1 e1_ e5_ hc5_ HO6.out (blk_lt HKb6.out) (by omega) ?_)
        intro v1 w7 ho hg hat
        have hne : some w3.heap.size ≠ (Value.slice Av (imgL (xs.take k) p).length cv).ownBlock := fun e => by have := HO6.out.base _ e.symm; omega
        have HKb7 := Aside0.mk ((hg.block _ (blk_lt HKb6.out) hne).trans HKb6.out)
        have HB7 := Aside0.mk (HB6.out.grown hg HB6.out.size (fun j hj => by have := HO6.out.base j hj; omega))
        have HO7 := Aside0.mk ho
        obtain ⟨A7, d7, rfl, -⟩ := ho.read
        have c71 : w7.cell? ⟨w3.heap.size, 1, none⟩ = some (.slice Av (imgL (xs.take k) p).length cv) := blk_cell HKb7.out 1
        have f71 : w7.frozen? ⟨w3.heap.size, 1, none⟩ = false := blk_frozen HKb7.out 1
        clear ho hg hat hne
        simp only [List.drop, Act.put, List.setIfInBounds_toArray, List.set_cons_zero, List.set_cons_succ]
        refine .inl (opGives_value (v := .pointer (some ⟨w3.heap.size, 1, none⟩)) (w' := w7) (by go_simp) ?_)
        simp only [List.drop, Act.put, List.setIfInBounds_toArray, List.set_cons_zero, List.set_cons_succ]
        refine .inr ⟨w7.setCell ⟨w3.heap.size, 1, none⟩ (.slice A7 (imgL (xs.take k) p ++ [(t : Int)]).length d7), by go_simp, ?_⟩
        simp only [List.drop, Act.put, List.setIfInBounds_toArray, List.set_cons_zero, List.set_cons_succ]
        unfold tailList
        go_wp2
        go_roundw
        case rel =>
          have h6 := HO7.out
          rw [List.length_append, List.length_singleton] at h6
          refine ⟨k + 1, by go_num, by omega, ⟨_, ⟨blk_put HKb7.out 1 _ rfl⟩, ⟨?_⟩⟩, ⟨HB7.out.setCell (by simp) _⟩⟩
          rw [HNX.out]
          exact h6.grown (set_grown' _ w3.heap.size _ _) (fun j hj e => by have := h6.base j hj; cases e; omega)
        case measure => simp [intOf]; omega
    · have HOE : Aside0 (OwnI (w3.heap.size + 1) wr (.slice Av (imgL (xs.take k) p).length cv) (imgL xs p)) := ⟨by have h := HO.out; rw [show k = xs.length by omega, List.take_length] at h ⊢; exact h⟩
      have HLL : Aside0 ((imgL xs p).length ≤ 1000000) := ⟨by unfold imgL; rw [List.length_map]; omega⟩
      have c10 : wr.cell? ⟨w3.heap.size, 0, none⟩ = some (.int .i64 n) := blk_cell HKb.out 0
      have c11 : wr.cell? ⟨w3.heap.size, 1, none⟩ = some (.slice Av (imgL (xs.take k) p).length cv) := blk_cell HKb.out 1
      have HLT := Aside0.mk (blk_lt HKb.out)
      go_wp2_with (first | (go_at_call 131; refine (sortInts (w3.heap.size + 1) _ _ (imgL xs p) HOE.out HLL.out).mono ?_; rintro e w8 ⟨rfl, ho, hb⟩; have HO8 := Aside0.mk ho; have HB8 := Aside0.mk (HBw.out.trans (hb.mono (Nat.le_succ _))); have HKb8 := Aside0.mk ((hb.block _ (Nat.lt_succ_self _)).trans HKb.out); have c10 : w8.cell? ⟨w3.heap.size, 0, none⟩ = some (.int .i64 n) := blk_cell HKb8.out 0; have c11 : w8.cell? ⟨w3.heap.size, 1, none⟩ = some (.slice Av (imgL (xs.take k) p).length cv) := blk_cell HKb8.out 1; have HK2 := Aside0.mk (blk_below HBK3.out HB8.out); have c60 : w8.cell? ⟨w.heap.size + 1 + 1, 0, none⟩ = some (.int .i64 0) := blk_cell HK2.out 0; have c61 : w8.cell? ⟨w.heap.size + 1 + 1, 1, none⟩ = some (.slice none 0 0) := blk_cell HK2.out 1; have f60 : w8.frozen? ⟨w.heap.size + 1 + 1, 0, none⟩ = false := blk_frozen HK2.out 0; have f61 : w8.frozen? ⟨w.heap.size + 1 + 1, 1, none⟩ = false := blk_frozen HK2.out 1; clear ho hb))
      refine bodyPost_ret (results_ct rfl _ _ (w.heap.size + 1 + 1) 28 #[.int .i64 n, .slice Av (imgL (xs.take k) p).length cv] (0, 0) _ rfl (by refine blk_put (cs := #[.int .i64 n, .slice none 0 0]) ?_ 1 _ rfl; refine blk_put (cs := #[.int .i64 0, .slice none 0 0]) ?_ 0 _ rfl; exact HK2.out) Try.underlying28 rfl (by kernel_rfl)) rfl ?_
      have hsz := HS1.out
      have hs5 := HB3.out.size
      have hs6 := HB.out.size
      have hb := HB.out.trans ((HB3.out.trans (HB8.out.mono HB3.out.size)).mono HB.out.size)
      refine ⟨.slice Av (imgL (xs.take k) p).length cv, rfl, ?_, (hb.setCell (by simp; omega) _).setCell (by simp; omega) _⟩
      have ho := HO8.out.lower (b' := w.heap.size) (by omega)
      have hbs := HO8.out.base
      refine OwnI.grown (OwnI.grown ho (set_grown' _ (w.heap.size + 1 + 1) _ _) (fun j hj e => ?_)) (set_grown' _ (w.heap.size + 1 + 1) _ _) (fun j hj e => ?_)
      · have := hbs j hj; cases e; omega
      · have := hbs j hj; cases e; omega
end Go.Proofs.Ythbkboigbkadjaa.H

namespace Go.Proofs.Ythbkboigbkadjaa.H
open Go.RowKit Go.Proofs.YthbkboigbkadjaaW.PrintWords Go.Proofs.YthbkboigbkadjaaW.PrintLast Go.Proofs.YthbkboigbkadjaaW.PrintMore
set_option linter.unusedVariables false
set_option linter.unusedSimpArgs false

/-! images under an order -/
theorem imgTo_test (f : Nat) (p : List Int) (j : Nat) : ∀ k, (imgTo f p k).testBit j = true ↔ ∃ v, v < k ∧ f.testBit v = true ∧ (p.getD v 0).toNat = j
  | 0 => by simp [imgTo]
  | k + 1 => by
    have ih := imgTo_test f p j k
    rw [imgTo_succ]
    by_cases h : f.testBit k = true
    · rw [if_pos h, Nat.testBit_or, Bool.or_eq_true, ih, Nat.testBit_two_pow, decide_eq_true_eq]
      constructor
      · rintro (⟨v, h1, h2, h3⟩ | h3)
        · exact ⟨v, by omega, h2, h3⟩
        · exact ⟨k, by omega, h, h3⟩
      · rintro ⟨v, h1, h2, h3⟩
        by_cases e : v = k
        · subst e; exact .inr h3
        · exact .inl ⟨v, by omega, h2, h3⟩
    · rw [if_neg h, ih]
      constructor
      · rintro ⟨v, h1, h2, h3⟩; exact ⟨v, by omega, h2, h3⟩
      · rintro ⟨v, h1, h2, h3⟩
        by_cases e : v = k
        · subst e; exact absurd h2 h
        · exact ⟨v, by omega, h2, h3⟩
theorem nodup_inj {p : List Int} (hn : p.Nodup) {u v : Nat} (hu : u < p.length) (hv : v < p.length) (h : p[u] = p[v]) : u = v := by
  rcases Nat.lt_trichotomy u v with h1 | h1 | h1
  · exact absurd h (List.pairwise_iff_getElem.1 hn u v hu hv h1)
  · exact h1
  · exact absurd h.symm (List.pairwise_iff_getElem.1 hn v u hv hu h1)
theorem img_inj {p : List Int} (hn : p.Nodup) (hp : ∀ x ∈ p, 0 ≤ x) {f g : Nat} (hf : f < 2 ^ p.length) (hg : g < 2 ^ p.length) (h : img f p = img g p) : f = g := by
  have key : ∀ (f g : Nat), img f p = img g p → ∀ v, v < p.length → f.testBit v = true → g.testBit v = true := by
    intro f g h v hv hfv
    have h1 := (imgTo_test f p (p.getD v 0).toNat p.length).2 ⟨v, hv, hfv, rfl⟩
    have h2 : (imgTo g p p.length).testBit (p.getD v 0).toNat = true := by
      have : imgTo f p p.length = imgTo g p p.length := h
      rw [← this]; exact h1
    obtain ⟨u, hu, hgu, e⟩ := (imgTo_test g p (p.getD v 0).toNat p.length).1 h2
    rw [List.getD_eq_getElem?_getD, List.getElem?_eq_getElem hu, List.getD_eq_getElem?_getD, List.getElem?_eq_getElem hv] at e
    simp only [Option.getD_some] at e
    have h3 := hp _ (List.getElem_mem hu)
    have h4 := hp _ (List.getElem_mem hv)
    have h5 : p[u] = p[v] := by omega
    have h6 : u = v := nodup_inj hn hu hv h5
    rw [← h6]; exact hgu
  apply Nat.eq_of_testBit_eq
  intro v
  by_cases hv : v < p.length
  · rw [Bool.eq_iff_iff]; exact ⟨key f g h v hv, key g f h.symm v hv⟩
  · have h2 : 2 ^ p.length ≤ 2 ^ v := Nat.pow_le_pow_right (by decide) (by omega)
    rw [Nat.testBit_lt_two_pow (by omega), Nat.testBit_lt_two_pow (by omega)]
theorem sub_perm : ∀ {A B : List Int}, A.Nodup → B.Nodup → (∀ x ∈ A, x ∈ B) → A.length = B.length → A.Perm B
  | [], B, _, _, _, hl => by
    have : B = [] := List.length_eq_zero_iff.1 hl.symm
    subst this; exact .refl _
  | a :: A, B, hA, hB, hs, hl => by
    have ha := hs a List.mem_cons_self
    have hA' := List.nodup_cons.1 hA
    have h1 := sub_perm (A := A) (B := B.erase a) hA'.2 (hB.erase a) (fun x hx => (List.mem_erase_of_ne (fun e => hA'.1 (by rw [← e]; exact hx))).2 (hs x (List.mem_cons_of_mem _ hx))) (by rw [List.length_erase_of_mem ha]; simp at hl; omega)
    exact (h1.cons a).trans (List.perm_cons_erase ha).symm
theorem iso_ok {n : Nat} {xs ys p : List Int} (hx : Cx n xs) (hy : ys.Pairwise (· < ·)) (hl : xs.length = ys.length) (hn : p.Nodup) (hpl : p.length = n) (hp : ∀ x ∈ p, 0 ≤ x) : decide (sortN (imgL xs p) = ys) = xs.all fun x => decide (((img x.toNat p : Nat) : Int) ∈ ys) := by
  have hnd : (imgL xs p).Nodup := by
    unfold imgL
    refine List.Pairwise.map _ (fun a b h e => ?_) (List.Pairwise.and_mem.1 hx.asc)
    obtain ⟨h1, h2, h3⟩ := h
    have ha := hx.bd a h1
    have hb := hx.bd b h2
    have h4 := img_inj hn hp (f := a.toNat) (g := b.toNat) (by rw [hpl]; omega) (by rw [hpl]; omega) (by omega)
    omega
  have hyn : ys.Nodup := hy.imp (fun h => by omega)
  rw [Bool.eq_iff_iff, decide_eq_true_eq, List.all_eq_true]
  constructor
  · intro h x hxx
    rw [decide_eq_true_eq, ← h]
    exact (List.mergeSort_perm _ _).mem_iff.2 (List.mem_map.2 ⟨x, hxx, rfl⟩)
  · intro h
    refine sortN_eq ?_ (hy.imp (fun h => by omega))
    refine (sub_perm hnd hyn (fun z hz => ?_) (by unfold imgL; rw [List.length_map]; exact hl)).symm
    obtain ⟨x, hxx, rfl⟩ := List.mem_map.1 hz
    exact of_decide_eq_true (h x hxx)
end Go.Proofs.Ythbkboigbkadjaa.H

namespace Go.Proofs.Ythbkboigbkadjaa.H
open Go.RowKit Go.Proofs.YthbkboigbkadjaaW.PrintWords Go.Proofs.YthbkboigbkadjaaW.PrintLast Go.Proofs.YthbkboigbkadjaaW.PrintMore
set_option linter.unusedVariables false
set_option linter.unusedSimpArgs false

set_option maxRecDepth 100000 in
set_option maxHeartbeats 1000000 in
theorem countDo (w : World) (bo : Nat) (s : Nat) (hs : s < 1000000) (v : Value) (h : w.heap[bo]? = some (.cells #[.int .i64 (s : Nat)] 2)) :
    Calls Try.prog 52 #[v, .pointer (some ⟨bo, 0, none⟩)] w fun e w' => e = .returned (.bool false) ∧ w'.heap[bo]? = some (.cells #[.int .i64 ((s + 1 : Nat) : Int)] 2) ∧ w.grownBy w' (some bo) := by
  have H := Aside0.mk h
  have c0 : w.cell? ⟨bo, 0, none⟩ = some (.int .i64 (s : Nat)) := blk_cell h 0
  have f0 : w.frozen? ⟨bo, 0, none⟩ = false := blk_frozen h 0
  clear h
  go_enter Try.func52, Try.ntmps52
  go_wp2
  go_ret
  refine ⟨rfl, ?_, set_grown' _ _ _ _⟩
  exact blk_put H.out 0 _ rfl

set_option maxRecDepth 100000 in
set_option maxHeartbeats 1000000 in
theorem findDo (w : World) (bo : Nat) (u v : Value) (hv : ∃ A n c, v = .slice A n c) (h : w.heap[bo]? = some (.cells #[u] 22)) :
    Calls Try.prog 54 #[v, .pointer (some ⟨bo, 0, none⟩)] w fun e w' => e = .returned (.bool true) ∧ w'.heap[bo]? = some (.cells #[v] 22) ∧ w.grownBy w' (some bo) := by
  obtain ⟨A, n, c, rfl⟩ := hv
  have H := Aside0.mk h
  have c0 : w.cell? ⟨bo, 0, none⟩ = some u := blk_cell h 0
  have f0 : w.frozen? ⟨bo, 0, none⟩ = false := blk_frozen h 0
  clear h
  go_enter Try.func54, Try.ntmps54
  go_wp2
  go_ret
  refine ⟨rfl, ?_, set_grown' _ _ _ _⟩
  exact blk_put H.out 0 _ rfl
end Go.Proofs.Ythbkboigbkadjaa.H

namespace Go.Proofs.Ythbkboigbkadjaa.H
open Go.RowKit Go.Proofs.YthbkboigbkadjaaW.PrintWords Go.Proofs.YthbkboigbkadjaaW.PrintLast Go.Proofs.YthbkboigbkadjaaW.PrintMore
set_option linter.unusedVariables false
set_option linter.unusedSimpArgs false

/-- a function that is handed a list, turns block bo alone, and says whether it stops -/
def DoL {σ : Type} (B : Nat) (St : σ → World → Prop) (stp : σ → List Int → Bool × σ) (bo : Nat) (fv : Value) : Prop :=
  ∃ g first caps, fv = .func (.func g) first caps ∧ Enters g ∧ ∀ w s v l, l.length ≤ 6 → St s w → OwnI B w v l → Calls Try.prog g (first ++ #[v] ++ caps) w fun e w' => e = .returned (.bool (stp s l).1) ∧ St (stp s l).2 w' ∧ w.grownBy w' (some bo)

set_option maxRecDepth 100000 in
set_option maxHeartbeats 4000000 in
theorem isoLeaf {σ : Type} (B : Nat) (St : σ → World → Prop) (stp : σ → List Int → Bool × σ) (bo bk bl bd bg n : Nat) (ku lu : Value) (xs ys : List Int) (fv : Value) (hdo : DoL B St stp bo fv) (hSt : ∀ s w w', St s w → Below w.heap.size w w' → St s w')
    (v : Value) (l : List Int) (u : Int) (s : σ) (w : World) (hx : cxOk n xs = true) (hc : Cx n xs) (ho : ordOk n l = true) (hk : ReadI w ku xs) (hl : ReadI w lu ys) (hvo : OwnI B w v l) (hs : St s w)
    (k0 : w.cell? ⟨bk, 0, none⟩ = some (.int .i64 n)) (k1 : w.cell? ⟨bk, 1, none⟩ = some ku) (l1 : w.cell? ⟨bl, 1, none⟩ = some lu) (d0 : w.cell? ⟨bd, 0, none⟩ = some fv) :
    Calls Try.prog 108 #[v, .int .i64 u, .pointer (some ⟨bk, 0, none⟩), .pointer (some ⟨bl, 0, none⟩), .pointer (some ⟨bd, 0, none⟩), .pointer (some ⟨bg, 0, none⟩)] w fun e w' => ∃ s', e = .returned (.bool (walkD (fun p => decide (sortN (imgL xs p) = ys)) stp [l] s).1) ∧ s' = (walkD (fun p => decide (sortN (imgL xs p) = ys)) stp [l] s).2 ∧ St s' w' ∧ w.grownBy w' (some bo) := by
  have hv := hvo.read
  have hlen : l.length = n := (ord_dom ho).1
  have HL6 : Aside0 (l.length ≤ 6) := ⟨by rw [hlen]; exact hc.hi⟩
  have hln := hv.len
  obtain ⟨g, first, caps, rfl, hent, hp⟩ := hdo
  have HDO := Aside0.mk hp
  have HL := Aside0.mk (fun W (h : Below w.heap.size w W) => lengthI v l W (hv.below h))
  rw [hlen] at HL
  have HRN := Aside0.mk (fun W (h : Below w.heap.size w W) => renumber n ku xs v l W (hk.below h) (hv.below h) hx hc ho)
  have HLW := Aside0.mk (fun W (h : Below w.heap.size w W) => hl.below h)
  have HVW := Aside0.mk (fun W (h : Below w.heap.size w W) => hvo.below h)
  have HSW := Aside0.mk (fun W (h : Below w.heap.size w W) => hSt s w W hs h)
  have HX0 : ∀ x : Ext w, x.1.cell? ⟨bk, 0, none⟩ = some (.int .i64 n) := fun x => Ext.cell k0 x
  have HXL : Aside0 (xs.length ≤ 1000000) := ⟨Nat.le_trans hc.len (by decide)⟩
  have HLX : Aside0 (∀ x : Ext w, Calls Try.prog 109 #[v] x.1 fun e w' => e = .returned (.int .i64 (n : Nat)) ∧ Below x.1.heap.size x.1 w') := ⟨fun x => HL.out x.1 x.2⟩
  have K0 := Aside0.mk k0
  have K1 := Aside0.mk k1
  have L1 := Aside0.mk l1
  have D0 := Aside0.mk d0
  obtain ⟨A1, d1, rfl, -⟩ := id hk
  obtain ⟨A2, d2, rfl, -⟩ := id hl
  obtain ⟨A3, d3, rfl, -⟩ := id hv
  unfold Enters at hent
  clear hk hl hv hvo hp hs hSt hx hc ho k0 k1 l1 d0 hlen
  go_enter Try.func108, Try.ntmps108
  go_wp2
  refine wp_region_ext (by kernel_rfl) (by kernel_rfl) ?_
  repeat (go_big_quiet_step (first | (go_at_call 109; with_reducible exact Calls.ext_of (HLX.out _))))
  refine wpQuiet_nil ?_
  rintro _ ⟨x, rfl⟩
  have HBX := Aside0.mk x.2
  obtain ⟨wx, hwx⟩ : ∃ wx, wx = x.1 := ⟨_, rfl⟩
  rw [← hwx] at HBX ⊢
  clear hwx HX0 HLX
  have k0 := pw_cell_below HBX.out K0.out
  have k1 := pw_cell_below HBX.out K1.out
  obtain ⟨b, hb⟩ : ∃ b, b = decide (sortN (imgL xs l) = ys) := ⟨_, rfl⟩
  have HBB := Aside0.mk hb
  have HLN : Aside0 ((sortN (imgL xs l)).length ≤ 1000000) := ⟨by unfold sortN imgL; rw [List.length_mergeSort, List.length_map]; exact HXL.out⟩
  clear hb
  cases b with
  | false =>
    have HW : Aside0 (walkD (fun p => decide (sortN (imgL xs p) = ys)) stp [l] s = (false, s)) := ⟨by unfold walkD; rw [if_neg (by rw [← HBB.out]; decide)]; rfl⟩
    go_wp2_with (first | (go_at_call 110; refine (HRN.out _ HBX.out).mono ?_; rintro e w3 ⟨u3, rfl, ho, hb⟩; obtain ⟨A4, d4, rfl, -⟩ := ho.read; have HB3 := Aside0.mk (HBX.out.trans (hb.mono HBX.out.size)); have HO3 := Aside0.mk ho; have l1x : (w3.alloc (.cells #[.int .i64 n, .slice A4 (sortN (imgL xs l)).length d4] 28)).cell? ⟨bl, 1, none⟩ = some (.slice A2 ys.length d2) := pw_cell_below (HB3.out.trans ((Below.alloc (Below.refl _ _) (Nat.le_refl _) _).mono HB3.out.size)) L1.out; clear ho hb) | (go_at_call 111; refine (sliceEqual _ (sortN (imgL xs l)) _ ys _ (HO3.out.below (Below.alloc (Below.refl _ _) (Nat.le_refl _) _)).read (HLW.out _ (HB3.out.trans ((Below.alloc (Below.refl _ _) (Nat.le_refl _) _).mono HB3.out.size)))).mono ?_; rintro e w5 ⟨rfl, hb⟩; rw [← HBB.out]; have hsz : w3.heap.size ≤ (w3.alloc (.cells #[.int .i64 n, .slice A4 (sortN (imgL xs l)).length d4] 28)).heap.size := (by simp); have HB5 := Aside0.mk (HB3.out.trans (((Below.alloc (Below.refl _ _) (Nat.le_refl _) _).trans (hb.mono hsz)).mono HB3.out.size)); clear hb hsz))
    go_ret
    exact ⟨s, by rw [HW.out]; rfl, by rw [HW.out], HSW.out _ HB5.out, grown_below HB5.out _⟩
  | true =>
    have HW : Aside0 (walkD (fun p => decide (sortN (imgL xs p) = ys)) stp [l] s = stp s l) := ⟨by
      unfold walkD
      rw [if_pos (by rw [← HBB.out])]
      cases h : stp s l with
      | mk r s' => cases r <;> simp [walkD]⟩
    go_wp2_with (first | (go_at_call 110; refine (HRN.out _ HBX.out).mono ?_; rintro e w3 ⟨u3, rfl, ho, hb⟩; obtain ⟨A4, d4, rfl, -⟩ := ho.read; have HB3 := Aside0.mk (HBX.out.trans (hb.mono HBX.out.size)); have HO3 := Aside0.mk ho; have l1x : (w3.alloc (.cells #[.int .i64 n, .slice A4 (sortN (imgL xs l)).length d4] 28)).cell? ⟨bl, 1, none⟩ = some (.slice A2 ys.length d2) := pw_cell_below (HB3.out.trans ((Below.alloc (Below.refl _ _) (Nat.le_refl _) _).mono HB3.out.size)) L1.out; clear ho hb) | (go_at_call 111; refine (sliceEqual _ (sortN (imgL xs l)) _ ys _ (HO3.out.below (Below.alloc (Below.refl _ _) (Nat.le_refl _) _)).read (HLW.out _ (HB3.out.trans ((Below.alloc (Below.refl _ _) (Nat.le_refl _) _).mono HB3.out.size)))).mono ?_; rintro e w5 ⟨rfl, hb⟩; rw [← HBB.out]; have hsz : w3.heap.size ≤ (w3.alloc (.cells #[.int .i64 n, .slice A4 (sortN (imgL xs l)).length d4] 28)).heap.size := (by simp); have HB5 := Aside0.mk (HB3.out.trans (((Below.alloc (Below.refl _ _) (Nat.le_refl _) _).trans (hb.mono hsz)).mono HB3.out.size)); have d0x := pw_cell_below HB5.out D0.out; clear hb hsz) | (refine (HDO.out _ s _ l HL6.out (HSW.out _ HB5.out) (HVW.out _ HB5.out)).mono ?_; rintro e w6 ⟨rfl, hst, hg⟩; have HST := Aside0.mk hst; have HG6 := Aside0.mk hg; clear hst hg))
    go_ret
    exact ⟨(stp s l).2, by rw [HW.out]; rfl, by rw [HW.out], HST.out, grown_trans (grown_below HB5.out _) HG6.out⟩
end Go.Proofs.Ythbkboigbkadjaa.H

namespace Go.Proofs.Ythbkboigbkadjaa.H
open Go.RowKit Go.Proofs.YthbkboigbkadjaaW.PrintWords Go.Proofs.YthbkboigbkadjaaW.PrintLast Go.Proofs.YthbkboigbkadjaaW.PrintMore
set_option linter.unusedVariables false
set_option linter.unusedSimpArgs false

/-- where a walk stands -/
structure Stg (n : Nat) : Prop where
theorem stg_next (k k' : Nat) (h : Stg k) : Stg k' := ⟨⟩
theorem new_cell (W : World) (cs : Array Value) (t : TypeId) (i : Nat) (v : Value) (h : cs[i]? = some v) : (W.alloc (.cells cs t)).cell? ⟨W.heap.size, i, none⟩ = some v := by
  rw [blk_cell (blk_new W _) i, h]
theorem below_unalloc {W W' : World} {o : Obj} (h : Below (W.alloc o).heap.size (W.alloc o) W') : Below W.heap.size W W' :=
  (Below.alloc (Below.refl _ _) (Nat.le_refl _) o).trans (h.mono (by simp))
theorem alloc_size {W W' : World} {o : Obj} (h : Below (W.alloc o).heap.size (W.alloc o) W') : W.heap.size + 1 ≤ W'.heap.size := by
  have := h.size
  rwa [World.size_alloc] at this
theorem Aside0.own {b : Nat} {w w' : World} {v : Value} {xs : List Int} (h : Aside0 (OwnI b w v xs)) (hb : Below w.heap.size w w') : Aside0 (OwnI b w' v xs) := ⟨OwnI.below h.out hb⟩
theorem Aside0.belowC {w w1 w' : World} (h : Aside0 (Below w.heap.size w w1)) (hb : Below w1.heap.size w1 w') : Aside0 (Below w.heap.size w w') := ⟨h.out.trans (hb.mono h.out.size)⟩
theorem cell_ahead {W : World} {a : Addr} {v : Value} (h : W.cell? a = some v) (o : Obj) : (W.alloc o).cell? a = some v := pw_cell_below (Below.alloc (Below.refl _ _) (Nat.le_refl _) o) h
theorem cell_grown {W W' : World} {v u : Value} {a : Addr} {lo hi : Nat} (hg : W.grownBy W' v.ownBlock) (hr : ∀ k, v.ownBlock = some k → lo ≤ k ∧ k < hi) (hn : a.block < lo ∨ hi ≤ a.block) (hc : W.cell? a = some u) : W'.cell? a = some u := by
  rw [World.cell?_of_block (hg.block a.block (World.block_lt_of_cell? _ _ hc) (fun e => by have := hr _ e.symm; omega))]
  exact hc
theorem own_grown {W W' : World} {v u : Value} {b lo hi lo' hi' : Nat} {xs : List Int} (hg : W.grownBy W' v.ownBlock) (hr : ∀ k, v.ownBlock = some k → lo ≤ k ∧ k < hi) (hr' : ∀ k, u.ownBlock = some k → lo' ≤ k ∧ k < hi') (hn : hi' ≤ lo ∨ hi ≤ lo') (ho : OwnI b W u xs) : OwnI b W' u xs :=
  ho.grown hg (fun k hk e => by have h1 := hr _ e.symm; have h2 := hr' _ hk; omega)
end Go.Proofs.Ythbkboigbkadjaa.H
