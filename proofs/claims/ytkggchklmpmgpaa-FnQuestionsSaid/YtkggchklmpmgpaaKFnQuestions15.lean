/- Trees drawn: DrawQuestionsFor. Tests of lists that the laws make: laws.hasInt, laws.likeInts. Numbers of questions, evaders and Euler numbers: what goes together (plain). Marks over complexes. A slice of the call's own whose capacity was cut; copies of the reference. -/
import Derived.Test.YtkggchklmpmgpaaKFnQuestions1
import Derived.Test.YtkggchklmpmgpaaKFnQuestions2
import Derived.Test.YtkggchklmpmgpaaKFnQuestions3
import Derived.Test.YtkggchklmpmgpaaKFnQuestions4
import Derived.Test.YtkggchklmpmgpaaKFnQuestions5
import Derived.Test.YtkggchklmpmgpaaKFnQuestions6
import Derived.Test.YtkggchklmpmgpaaKFnQuestions7
import Derived.Test.YtkggchklmpmgpaaKFnQuestions8
import Derived.Test.YtkggchklmpmgpaaKFnQuestions9
import Derived.Test.YtkggchklmpmgpaaKFnQuestions10
import Derived.Test.YtkggchklmpmgpaaKFnQuestions11
import Derived.Test.YtkggchklmpmgpaaKFnQuestions12
import Derived.Test.YtkggchklmpmgpaaKFnQuestions13
import Derived.Test.YtkggchklmpmgpaaKFnQuestions14

namespace Go.Proofs.Ytkggchklmpmgpaa.H
open Go.RowKit Go.Proofs.YtkggchklmpmgpaaW.PrintWords Go.Proofs.YtkggchklmpmgpaaW.PrintLast Go.Proofs.YtkggchklmpmgpaaW.PrintMore
set_option linter.unusedVariables false
set_option linter.unusedSimpArgs false

theorem maxIf (a b : Int) : (if a < b then b else a) = max a b := by split <;> omega
theorem minIf (a b : Int) : (if b < a then b else a) = min a b := by split <;> omega

set_option maxRecDepth 100000 in
set_option maxHeartbeats 4000000 in
theorem drawQuestionsFor (v : Value) (nb : Nat) (w : World) (hn : nb ≤ 4096) (hv : ReadY w v nb) :
    Calls Try.prog 29 #[v] w fun e w' => ∃ (a : Int) (u tv : Value) (ys ts : List Int) (h : Int), e = .returned (.tuple #[.agg #[.int .i64 a, u], tv, .int .i64 h]) ∧ OwnI w.heap.size w' u ys ∧ OwnI w.heap.size w' tv ts ∧ Rc a ys ∧ ts.length ≤ 64 ∧ (0 ≤ h ∧ h < 65) ∧ Below w.heap.size w w' := by
  obtain ⟨w1, hw1⟩ : ∃ w1, w1 = w.alloc C0 := ⟨_, rfl⟩
  have hb1 : Below w.heap.size w w1 := by rw [hw1]; exact Below.alloc (Below.refl _ _) (Nat.le_refl _) _
  have HZ1 : Aside0 (w1.heap.size = w.heap.size + 1) := ⟨by rw [hw1]; simp⟩
  have HK1 : Aside0 (w1.heap[w.heap.size]? = some C0) := ⟨by rw [hw1]; exact blk_new w _⟩
  have HB1 := Aside0.mk hb1
  have HFR := Aside0.mk (srcFrom v nb hn w1 (hv.below hb1))
  have hmx : Try.prog.follows .mixedOrders = true := by kernel_rfl
  clear hv hb1
  go_enter Try.func29, Try.ntmps29
  go_wp2_with (first | (go_at_call 67; rw [← hw1]; clear hw1; refine Aside0.out ?_) | (go_at_call 73; refine Aside0.out ?_))
  refine Aside0.mk ?_
  refine HFR.out.mono ?_
  rintro e w2 ⟨rfl, hs, hb⟩
  have HS2 := Aside0.mk hs
  have HLT := Aside0.mk hs.lt
  have HB2 := Aside0.mk hb
  have HDB := Aside0.mk (drawBoth w1.heap.size w2 hs)
  clear hs hb
  go_wp2_with (first | (go_at_call 73; refine Aside0.out ?_))
  refine Aside0.mk ?_
  refine HDB.out.mono ?_
  rintro e w3 ⟨a, z, tv, ys, ts, rfl, ho, ht, hr, htl, hd⟩
  obtain ⟨Az, cz, rfl, -⟩ := id ho.read
  obtain ⟨At, ct, rfl, -⟩ := id ht.read
  have HD3 := Aside0.mk hd
  have HO3 := Aside0.mk ho
  have HT3 := Aside0.mk ht
  have HR := Aside0.mk hr
  have HTL := Aside0.mk htl
  obtain ⟨m, hm⟩ : ∃ m : Nat, min (max a 0) 6 = (m : Int) := ⟨(min (max a 0) 6).toNat, by omega⟩
  have hm6 : m ≤ 6 := by omega
  have HM := Aside0.mk hm
  have HM6 := Aside0.mk hm6
  obtain ⟨M, hM⟩ : ∃ M, M = 2 ^ m := ⟨_, rfl⟩
  have HSH := Aside0.mk (pow_wrap m (by omega))
  have HMB := Aside0.mk (pwn hm6)
  have HSH2 : Aside0 (IntKind.i64.wrap ((2 : Int) ^ m) = (M : Int)) := ⟨by rw [hM]; rcases (by omega : m = 0 ∨ m = 1 ∨ m = 2 ∨ m = 3 ∨ m = 4 ∨ m = 5 ∨ m = 6) with rfl | rfl | rfl | rfl | rfl | rfl | rfl <;> decide⟩
  rw [← hM] at HSH HMB
  clear ho ht hr htl hd hm hm6 hM
  go_wp2
  obtain ⟨wz, hwz⟩ : ∃ wz, wz = w3.alloc (.cells #[.int .i64 a, .slice Az ys.length cz] 28) := ⟨_, rfl⟩
  rw [← hwz]
  have hbz : Below w3.heap.size w3 wz := by rw [hwz]; exact Below.alloc (Below.refl _ _) (Nat.le_refl _) _
  have hkz : wz.heap[w3.heap.size]? = some (.cells #[.int .i64 a, .slice Az ys.length cz] 28) := by rw [hwz]; exact heap_alloc_new w3 _
  clear hwz
  have hkb : w3.heap.size ≠ w1.heap.size := Nat.ne_of_gt HD3.out.2.lt
  have HDz := Aside0.mk (HD3.out.then_below hbz)
  have HSz : Aside0 (Src w1.heap.size wz) := ⟨HDz.out.2⟩
  have HBz : Aside0 (Below w1.heap.size w1 wz) := ⟨HB2.out.trans (below_grown HDz.out.1 (Nat.le_refl _) (Nat.le_of_lt HLT.out))⟩
  have HZW : Aside0 (w1.heap.size ≤ wz.heap.size) := ⟨HBz.out.size⟩
  have HKz : Aside0 (wz.heap[w.heap.size]? = some C0) := ⟨by rw [HBz.out.block _ (by have h1 := HZ1.out; omega)]; exact HK1.out⟩
  have HOz := Aside0.mk (HO3.out.below hbz)
  have HTz := Aside0.mk (HT3.out.below hbz)
  have kc0 : wz.cell? ⟨w3.heap.size, 0, none⟩ = some (.int .i64 a) := blk_cell hkz 0
  have kc1 : wz.cell? ⟨w3.heap.size, 1, none⟩ = some (.slice Az ys.length cz) := blk_cell hkz 1
  clear hbz hkz
  have HZ0 : Aside0 (w.heap.size ≤ w.heap.size) := ⟨Nat.le_refl _⟩
  have hdr := grown_drew wz (some w1.heap.size)
  have HQ : Aside0 (∀ b s, (∀ i, b i = false) → QI w1.heap.size w.heap.size w3.heap.size w2.heap.size a (.slice Az ys.length cz) (.slice At ts.length ct) ys ts w b s wz.drew) := ⟨fun b s hb => ⟨HSz.out.below (Below.refl _ _).drew, HOz.out.gm hdr HLT.out, HTz.out.gm hdr HLT.out, grown_cell hdr kc0 hkb, grown_cell hdr kc1 hkb, (HB1.out.trans (HBz.out.mono HB1.out.size)).trans (Below.refl _ _).drew, by rw [hb 14]; exact HKz.out, fun j hj => by rw [hb j] at hj; cases hj⟩⟩
  clear hdr kc0 kc1
  refine wp_region_w 14 15 (by decide) (fun i => !(i == 10) && !(i == 11) && !(i == 12) && !(i == 13) && !(i == 14)) (fun i => match i with | 0 => fun v => v = .agg #[.int .i64 a, .slice Az ys.length cz] | 1 => fun v => v = .slice At ts.length ct | 2 => fun v => v = .pointer (some ⟨w1.heap.size, 0, none⟩) | 3 => fun v => v = .pointer (some ⟨w3.heap.size, 0, none⟩) | 4 => fun v => v = .int .i64 a | 5 => fun v => v = .int .i64 (max a 0) | 6 => fun v => v = .int .i64 (m : Int) | 7 => fun v => v = .int .u64 (m : Int) | 8 => fun v => v = .int .i64 (M : Int) | 9 => fun v => v = .pointer (some ⟨w1.heap.size, 0, none⟩) | _ => fun _ => True)
    (QI w1.heap.size w.heap.size w3.heap.size w2.heap.size a (.slice Az ys.length cz) (.slice At ts.length ct) ys ts w) [0, 0, 0, 0, 8, 24, 56, 120, 248, 0, 512, 1536, 4088, 8188, 16381, 32767, 65535] hmx (by kernel_rfl) ?start ?stay ?steps ?stores ?rest
  case start =>
    intro b s hb
    exact HQ.out b s hb
  case stay =>
    intro i b s v w1_ hq hI
    exact QI.quiet hq hI
  case steps =>
    refine ⟨?_, ?_, ?_, ?_, ?_, ?_, ?_, ?_, ?_, ?_, ?_, ?_, ?_, ?_, trivial⟩
    · intro s b_ w_ hI hbi hd hq R hR hN
      generalize hA : putAll _ 0 s _ = A
      clear hq
      refine stepG_on rfl ?_
      have kc0 := hI.k0
      have kc1 := hI.k1
      have hR' := hR rfl (.agg #[.int .i64 a, .slice Az ys.length cz]) rfl
      clear hR hN hd
      refine opGives_value ?_ hR'
      subst hA
      simp only [dsOf, List.take, List.map_cons, List.map_nil, Option.getD_some, putAll, Act.put, List.setIfInBounds_toArray, List.set_cons_zero, List.set_cons_succ]
      go_simp
    · intro s b_ w_ hI hbi hd hq R hR hN
      generalize hA : putAll _ 0 s _ = A
      clear hq
      refine stepG_on rfl ?_
      have hR' := hR rfl (.slice At ts.length ct) rfl
      clear hR hN hd
      refine opGives_value ?_ hR'
      subst hA
      simp only [dsOf, List.take, List.map_cons, List.map_nil, Option.getD_some, putAll, Act.put, List.setIfInBounds_toArray, List.set_cons_zero, List.set_cons_succ]
      go_simp
    · intro s b_ w_ hI hbi hd hq R hR hN
      generalize hA : putAll _ 0 s _ = A
      clear hq
      refine stepG_on rfl ?_
      have hR' := hR rfl (.pointer (some ⟨w1.heap.size, 0, none⟩)) rfl
      clear hR hN hd
      refine opGives_value ?_ hR'
      subst hA
      simp only [dsOf, List.take, List.map_cons, List.map_nil, Option.getD_some, putAll, Act.put, List.setIfInBounds_toArray, List.set_cons_zero, List.set_cons_succ]
      go_simp
    · intro s b_ w_ hI hbi hd hq R hR hN
      generalize hA : putAll _ 0 s _ = A
      clear hq
      refine stepG_on rfl ?_
      have hR' := hR rfl (.pointer (some ⟨w3.heap.size, 0, none⟩)) rfl
      clear hR hN hd
      refine opGives_value ?_ hR'
      subst hA
      simp only [dsOf, List.take, List.map_cons, List.map_nil, Option.getD_some, putAll, Act.put, List.setIfInBounds_toArray, List.set_cons_zero, List.set_cons_succ]
      go_simp
    · intro s b_ w_ hI hbi hd hq R hR hN
      generalize hA : putAll _ 0 s _ = A
      clear hq
      refine stepG_on rfl ?_
      have e3 : s 3 = _ := (hd 3 (by kernel_rfl)).2 rfl
      have kc0 := hI.k0
      have hR' := hR rfl (.int .i64 a) rfl
      clear hR hN hd
      refine opGives_value ?_ hR'
      subst hA
      simp only [dsOf, List.take, List.map_cons, List.map_nil, Option.getD_some, putAll, Act.put, List.setIfInBounds_toArray, List.set_cons_zero, List.set_cons_succ]
      go_simp
    · intro s b_ w_ hI hbi hd hq R hR hN
      generalize hA : putAll _ 0 s _ = A
      clear hq
      refine stepG_on rfl ?_
      have e4 : s 4 = _ := (hd 4 (by kernel_rfl)).2 rfl
      have hmx := maxIf a 0
      have hR' := hR rfl (.int .i64 (max a 0)) rfl
      clear hR hN hd
      refine opGives_value ?_ hR'
      subst hA
      simp only [dsOf, List.take, List.map_cons, List.map_nil, Option.getD_some, putAll, Act.put, List.setIfInBounds_toArray, List.set_cons_zero, List.set_cons_succ]
      go_simp
    · intro s b_ w_ hI hbi hd hq R hR hN
      generalize hA : putAll _ 0 s _ = A
      clear hq
      refine stepG_on rfl ?_
      have e5 : s 5 = _ := (hd 5 (by kernel_rfl)).2 rfl
      have hmn := (minIf (max a 0) 6).trans HM.out
      have hR' := hR rfl (.int .i64 (m : Int)) rfl
      clear hR hN hd
      refine opGives_value ?_ hR'
      subst hA
      simp only [dsOf, List.take, List.map_cons, List.map_nil, Option.getD_some, putAll, Act.put, List.setIfInBounds_toArray, List.set_cons_zero, List.set_cons_succ]
      go_simp
    · intro s b_ w_ hI hbi hd hq R hR hN
      generalize hA : putAll _ 0 s _ = A
      clear hq
      refine stepG_on rfl ?_
      have e6 : s 6 = _ := (hd 6 (by kernel_rfl)).2 rfl
      have hu : IntKind.u64.wrap (m : Int) = (m : Int) := wrapUn (by have := HM6.out; omega)
      have hR' := hR rfl (.int .u64 (m : Int)) rfl
      clear hR hN hd
      refine opGives_value ?_ hR'
      subst hA
      simp only [dsOf, List.take, List.map_cons, List.map_nil, Option.getD_some, putAll, Act.put, List.setIfInBounds_toArray, List.set_cons_zero, List.set_cons_succ]
      go_simp
    · intro s b_ w_ hI hbi hd hq R hR hN
      generalize hA : putAll _ 0 s _ = A
      clear hq
      refine stepG_on rfl ?_
      have e7 : s 7 = _ := (hd 7 (by kernel_rfl)).2 rfl
      have hsh : IntKind.i64.wrap ((2 : Int) ^ m) = (M : Int) := HSH2.out
      have hmm : min m 64 = m := by have := HM6.out; omega
      have hR' := hR rfl (.int .i64 (M : Int)) rfl
      clear hR hN hd
      refine opGives_value ?_ hR'
      subst hA
      simp only [dsOf, List.take, List.map_cons, List.map_nil, Option.getD_some, putAll, Act.put, List.setIfInBounds_toArray, List.set_cons_zero, List.set_cons_succ]
      go_simp
    · intro s b_ w_ hI hbi hd hq R hR hN
      generalize hA : putAll _ 0 s _ = A
      clear hq
      refine stepG_on rfl ?_
      have hR' := hR rfl (.pointer (some ⟨w1.heap.size, 0, none⟩)) rfl
      clear hR hN hd
      refine opGives_value ?_ hR'
      subst hA
      simp only [dsOf, List.take, List.map_cons, List.map_nil, Option.getD_some, putAll, Act.put, List.setIfInBounds_toArray, List.set_cons_zero, List.set_cons_succ]
      go_simp
    · intro s b_ w_ hI hbi hd hq R hR hN
      generalize hA : putAll _ 0 s _ = A
      clear hq
      refine stepG_on rfl ?_
      have e9 : s 9 = _ := (hd 9 (by kernel_rfl)).2 rfl
      clear hR
      refine opGives_call (f := 74) (args := #[.pointer (some ⟨w1.heap.size, 0, none⟩), .int .i64 24]) ?_ ?_
      · subst hA
        clear hN hd
        simp only [dsOf, List.take, List.map_cons, List.map_nil, Option.getD_some, putAll, Act.put, List.setIfInBounds_toArray, List.set_cons_zero, List.set_cons_succ]
        go_simp
      clear hA A hd
      refine (next w1.heap.size 24 w_ (by first | decide | omega) hI.src).mono ?_
      rintro e w3_ ⟨r, rfl, -, hr, hd⟩
      have hr := hr (by decide)
      exact ⟨_, rfl, hN rfl _ _ (QI.gm hI ⟨hd.1, fun _ => hd.2⟩ HLT.out hkb (by have := HZ1.out; omega) (Nat.le_trans HZ0.out hI.bel.size) 10 (by decide) _ ⟨r, rfl, hr⟩)⟩
    · intro s b_ w_ hI hbi hd hq R hR hN
      generalize hA : putAll _ 0 s _ = A
      clear hq
      refine stepG_on rfl ?_
      have b10 : b_ 10 = true := (hd 10 (by kernel_rfl)).1
      obtain ⟨r1, e10, hr1⟩ : ∃ r : Int, s 10 = .int .i64 r ∧ 0 ≤ r ∧ r < 24 := hI.vals 10 b10
      have hn0 : ¬ (23 : Int) = 0 := by decide
      have hqw : IntKind.i64.wrap (r1.tdiv 23) = r1.tdiv 23 := IntWalk.i64_in _ (by have h := Int.tdiv_eq_ediv_of_nonneg (b := 23) hr1.1; omega)
      clear hR
      have hN' := hN rfl (.int .i64 (r1.tdiv 23)) (w_) (hI.gm (Gm.refl _ _ _) HLT.out hkb (by have := HZ1.out; omega) (Nat.le_trans HZ0.out hI.bel.size) 11 (by decide) _ (⟨_, rfl, by have h := Int.tdiv_eq_ediv_of_nonneg (b := 23) hr1.1; omega⟩))
      clear hN hd
      refine opGives_value ?_ hN'
      subst hA
      simp only [dsOf, List.take, List.map_cons, List.map_nil, Option.getD_some, putAll, Act.put, List.setIfInBounds_toArray, List.set_cons_zero, List.set_cons_succ]
      go_simp
    · intro s b_ w_ hI hbi hd hq R hR hN
      generalize hA : putAll _ 0 s _ = A
      clear hq
      refine stepG_on rfl ?_
      have e8 : s 8 = _ := (hd 8 (by kernel_rfl)).2 rfl
      have b11 : b_ 11 = true := (hd 11 (by kernel_rfl)).1
      obtain ⟨r2, e11, hr2⟩ : ∃ r : Int, s 11 = .int .i64 r ∧ 0 ≤ r ∧ r < 2 := hI.vals 11 b11
      have haw : IntKind.i64.wrap ((M : Int) + r2) = (M : Int) + r2 := IntWalk.i64_in _ (by have := HMB.out; omega)
      clear hR
      have hN' := hN rfl (.int .i64 ((M : Int) + r2)) (w_) (hI.gm (Gm.refl _ _ _) HLT.out hkb (by have := HZ1.out; omega) (Nat.le_trans HZ0.out hI.bel.size) 12 (by decide) _ (⟨_, rfl, by have := HMB.out; omega⟩))
      clear hN hd
      refine opGives_value ?_ hN'
      subst hA
      simp only [dsOf, List.take, List.map_cons, List.map_nil, Option.getD_some, putAll, Act.put, List.setIfInBounds_toArray, List.set_cons_zero, List.set_cons_succ]
      go_simp
    · intro s b_ w_ hI hbi hd hq R hR hN
      generalize hA : putAll _ 0 s _ = A
      clear hq
      refine stepG_on rfl ?_
      have e2 : s 2 = _ := (hd 2 (by kernel_rfl)).2 rfl
      have b12 : b_ 12 = true := (hd 12 (by kernel_rfl)).1
      obtain ⟨r3, e12, hr3⟩ : ∃ r : Int, s 12 = .int .i64 r ∧ 1 ≤ r ∧ r ≤ 65 := hI.vals 12 b12
      clear hR
      refine opGives_call (f := 74) (args := #[.pointer (some ⟨w1.heap.size, 0, none⟩), .int .i64 r3]) ?_ ?_
      · subst hA
        clear hN hd
        simp only [dsOf, List.take, List.map_cons, List.map_nil, Option.getD_some, putAll, Act.put, List.setIfInBounds_toArray, List.set_cons_zero, List.set_cons_succ]
        go_simp
      clear hA A hd
      refine (next w1.heap.size r3 w_ (by first | decide | omega) hI.src).mono ?_
      rintro e w3_ ⟨r, rfl, -, hr, hd⟩
      have hr : 0 ≤ r ∧ r < 65 := by have := hr hr3.1; omega
      exact ⟨_, rfl, hN rfl _ _ (QI.gm hI ⟨hd.1, fun _ => hd.2⟩ HLT.out hkb (by have := HZ1.out; omega) (Nat.le_trans HZ0.out hI.bel.size) 13 (by decide) _ ⟨r, rfl, hr⟩)⟩
  case stores =>
    intro i o h1 h2 ho s b_ w_ hI hbi hd
    match i, h1, h2, ho, hbi, hd with
    | 14, h1, h2, ho, hbi, hd =>
      cases ho
      refine ⟨rfl, ?_⟩
      have e0 : s 0 = _ := (hd 0 (by decide) (by kernel_rfl)).2 (by decide) rfl
      have hk := hI.blk
      rw [hbi] at hk
      have c00 : w_.cell? ⟨w.heap.size, 0, none⟩ = some (.int .i64 0) := blk_cell hk 0
      have c01 : w_.cell? ⟨w.heap.size, 1, none⟩ = some (.slice none 0 0) := blk_cell hk 1
      have f00 : w_.frozen? ⟨w.heap.size, 0, none⟩ = false := blk_frozen hk 0
      have f01 : w_.frozen? ⟨w.heap.size, 1, none⟩ = false := blk_frozen hk 1
      generalize hA : putAll _ 0 s _ = A
      refine ⟨(w_.setCell ⟨w.heap.size, 0, none⟩ (.int .i64 a)).setCell ⟨w.heap.size, 1, none⟩ (.slice Az ys.length cz), ?_, ?_⟩
      · subst hA
        simp only [dsOf, List.take, List.map_cons, List.map_nil, Option.getD_some, putAll, Act.put, List.setIfInBounds_toArray, List.set_cons_zero, List.set_cons_succ]
        clear hd
        go_simp
      · exact hI.store hbi (by have := HZ1.out; omega) (by have := HZ1.out; have := HLT.out; have := HD3.out.size; omega) (by have := HZ1.out; have := HLT.out; omega) hk
    | n + 15, h1, h2, ho, hbi, hd => exact absurd h2 (by omega)
  case rest =>
    intro s9 b_ w9 hI hb hv
    have e0_ : s9 0 = _ := hv 0 (by decide) rfl
    have e1_ : s9 1 = _ := hv 1 (by decide) rfl
    simp only [dsOf, List.take, List.map_cons, List.map_nil, Option.getD_some, putAll, Act.put, List.setIfInBounds_toArray, List.set_cons_zero, List.set_cons_succ]
    clear hv
    have HB9 := Aside0.mk hI.bel
    have HK9 : Aside0 (w9.heap[w.heap.size]? = some (.cells #[.int .i64 a, .slice Az ys.length cz] 28)) := ⟨by have h := hI.blk; rw [hb 14 (by decide)] at h; exact h⟩
    have HO9 := Aside0.mk hI.own
    have HT9 := Aside0.mk hI.tre
    obtain ⟨r4, e13_, hr4⟩ : ∃ r : Int, s9 13 = .int .i64 r ∧ 0 ≤ r ∧ r < 65 := hI.vals 13 (hb 13 (by decide))
    have HR4 := Aside0.mk hr4
    rw [e0_, e1_, e13_]
    clear hb hI e0_ e1_ e13_
    simp only [List.drop]
    unfold tailList
    refine .inl ?_
    refine opGives_value (v := .slice At ts.length ct) (w' := w9) ?_ ?_
    · go_simp
    simp only [List.drop, Act.put, List.setIfInBounds_toArray, List.set_cons_zero, List.set_cons_succ]
    unfold tailList
    refine .inl ?_
    refine opGives_value (v := .int .i64 r4) (w' := w9) ?_ ?_
    · go_simp
    simp only [List.drop, Act.put, List.setIfInBounds_toArray, List.set_cons_zero, List.set_cons_succ]
    unfold tailList
    go_wp2
    refine bodyPost_ret (results_ctt rfl _ _ w.heap.size 28 #[.int .i64 a, .slice Az ys.length cz] (0, 0) _ rfl HK9.out Try.underlying28 rfl (by kernel_rfl)) rfl ?_
    have hlt := HLT.out
    have hz := HZ1.out
    exact ⟨a, _, _, ys, ts, r4, rfl, HO9.out.lower (by omega), HT9.out.lower (by omega), HR.out, HTL.out, HR4.out, HB9.out⟩
end Go.Proofs.Ytkggchklmpmgpaa.H

namespace Go.Proofs.Ytkggchklmpmgpaa.H
open Go.RowKit Go.Proofs.YtkggchklmpmgpaaW.PrintWords Go.Proofs.YtkggchklmpmgpaaW.PrintLast Go.Proofs.YtkggchklmpmgpaaW.PrintMore
set_option linter.unusedVariables false
set_option linter.unusedSimpArgs false

set_option maxRecDepth 100000 in
set_option maxHeartbeats 2000000 in
theorem hasInt (v : Value) (xs : List Int) (h : Int) (w : World) (hv : ReadI w v xs) (hl : xs.length ≤ 1000000) :
    Calls Try.prog 35 #[v, .int .i64 h] w fun e w' => e = .returned (.bool (decide (h ∈ xs))) ∧ Below w.heap.size w w' := by
  have HV := Aside0.mk hv
  have HB := Aside0.mk (Below.refl w.heap.size w)
  obtain ⟨A, c, rfl, -⟩ := id hv
  clear hv
  go_enter Try.func35, Try.ntmps35
  go_wp2
  go_loopw [5] (fun s5 wr => ∃ i : Nat, s5 = .int .i64 i ∧ i ≤ xs.length ∧ Aside0 (∀ j, j < i → xs.getD j 0 ≠ h) ∧ Aside0 (Below w.heap.size w wr)) (fun s5 _ => xs.length - (intOf s5).toNat)
  case atStart => exact ⟨0, rfl, Nat.zero_le _, ⟨fun j hj => by omega⟩, HB⟩
  case round =>
    obtain ⟨i, rfl, hi, HN, HBr⟩ := hrel
    by_cases hlt : i < xs.length
    · have hltI : (i : Int) < (xs.length : Int) := by omega
      obtain ⟨A_, c_, e_, -, hr⟩ := HV.out.below HBr.out
      cases e_
      obtain ⟨ad, y, rfl, hcell, HY⟩ := ReadI.get hr hlt
      clear hr
      by_cases hy : y = h
      · go_wp2
        go_ret
        refine ⟨?_, HBr.out⟩
        have hm : y ∈ xs := mem_at hlt HY.out
        subst hy
        simp [hm]
      · go_wp2
        go_roundw
        case rel => exact ⟨i + 1, by go_num, by omega, ⟨fun j hj => by
          by_cases hji : j = i
          · subst hji; rw [HY.out]; exact hy
          · exact HN.out j (by omega)⟩, HBr⟩
        case measure => simp [intOf]; omega
    · have hltI : ¬ (i : Int) < (xs.length : Int) := by omega
      go_wp2
      go_ret
      refine ⟨?_, HBr.out⟩
      have hm : h ∉ xs := fun hc => by
        obtain ⟨j, hj⟩ := List.mem_iff_getElem?.1 hc
        exact HN.out j (by have := (List.getElem?_eq_some_iff.1 hj).1; omega) (by rw [List.getD_eq_getElem?_getD, hj]; rfl)
      simp [hm]
set_option maxHeartbeats 1000000 in
theorem likeInts (v u : Value) (xs ys : List Int) (w : World) (hv : ReadI w v xs) (hu : ReadI w u ys) :
    Calls Try.prog 32 #[v, u] w fun e w' => e = .returned (.bool (xs == ys)) ∧ Below w.heap.size w w' := by
  obtain ⟨A, c, rfl, hc, hr⟩ := hv
  obtain ⟨A', c', rfl, hc', hr'⟩ := hu
  have hlx := hr.2.1
  have HR := Aside0.mk hr
  have HR' := Aside0.mk hr'
  clear hr hc hr' hc'
  by_cases hl : xs.length = ys.length
  · have h1 : ((xs.length : Int) != (ys.length : Int)) = false := by simp [hl]
    have HL := Aside0.mk hl
    clear hl
    go_enter Try.func32, Try.ntmps32
    go_wp2
    go_loopw [5] (fun v wr => ∃ i : Nat, v = .int .i64 i ∧ i ≤ xs.length ∧ Aside0 (xs.take i = ys.take i) ∧ Aside0 (Below w.heap.size w wr)) (fun v _ => xs.length - (intOf v).toNat)
    case atStart => exact ⟨0, rfl, Nat.zero_le _, ⟨rfl⟩, ⟨Below.refl _ _⟩⟩
    case round =>
      obtain ⟨i, rfl, hi, HI, HB2⟩ := hrel
      by_cases hlt : i < xs.length
      · obtain ⟨ad, x, e1, hcell, HX⟩ := ReadI.get (Kd.C_below HR.out HB2.out) hlt
        cases e1
        have hlt' : (i : Int) < (ys.length : Int) := by have := HL.out; omega
        obtain ⟨ad', y, e1, hcell', HY⟩ := ReadI.get (Kd.C_below HR'.out HB2.out) (i := i) (by have := HL.out; omega)
        cases e1
        cases hq : (x == y) with
        | true =>
          have hq' : (x != y) = false := by rw [bne, hq]; rfl
          have HQ := Aside0.mk hq
          clear hq
          go_wp2
          go_quiet (fail)
          go_wp2
          go_roundw
          case rel => exact ⟨i + 1, by go_num, by omega, ⟨by rw [take_get hlt HX.out, take_get (by omega) HY.out, HI.out, eq_of_beq HQ.out]⟩, ⟨below_drewN HB2.out _⟩⟩
          case measure => simp [intOf]; omega
        | false =>
          have hq' : (x != y) = true := by rw [bne, hq]; rfl
          have HQ := Aside0.mk hq
          clear hq
          go_wp2
          go_quiet (fail)
          go_wp2
          go_ret
          exact ⟨by
            have : (xs == ys) = false := by
              rw [beq_eq_false_iff_ne]
              rintro rfl
              have h3 := HQ.out
              rw [← HX.out, ← HY.out] at h3
              simp at h3
            rw [this]; rfl, below_drewN HB2.out _⟩
      · have e : i = xs.length := by omega
        have HE := Aside0.mk e
        clear e
        go_wp2
        go_ret
        exact ⟨by
          have h2 := HI.out
          rw [HE.out, List.take_length, HL.out, List.take_length] at h2
          rw [h2]; simp, HB2.out⟩
  · have h1 : ((xs.length : Int) != (ys.length : Int)) = true := by simp; omega
    go_enter Try.func32, Try.ntmps32
    go_wp2
    go_ret
    exact ⟨by
      have : (xs == ys) = false := by
        rw [beq_eq_false_iff_ne]
        rintro rfl
        exact hl rfl
      rw [this]; rfl, Below.refl _ _⟩
theorem likeSame (v u : Value) (xs : List Int) (w : World) (hv : ReadI w v xs) (hu : ReadI w u xs) :
    Calls Try.prog 32 #[v, u] w fun e w' => e = .returned (.bool true) ∧ Below w.heap.size w w' := by
  refine (likeInts v u xs xs w hv hu).mono ?_
  rintro e w' ⟨rfl, hb⟩
  exact ⟨by rw [beq_self_eq_true], hb⟩
end Go.Proofs.Ytkggchklmpmgpaa.H

namespace Go.Proofs.Ytkggchklmpmgpaa.H
open Go.RowKit Go.Proofs.YtkggchklmpmgpaaW.PrintWords Go.Proofs.YtkggchklmpmgpaaW.PrintLast Go.Proofs.YtkggchklmpmgpaaW.PrintMore
set_option linter.unusedVariables false
set_option linter.unusedSimpArgs false

/-! sums over the sets below N -/
def sumTo (f : Nat → Int) : Nat → Int
  | 0 => 0
  | k + 1 => sumTo f k + f k
theorem sumTo_congr {f g : Nat → Int} : ∀ {k : Nat}, (∀ i, i < k → f i = g i) → sumTo f k = sumTo g k
  | 0, _ => rfl
  | k + 1, h => by unfold sumTo; rw [sumTo_congr (fun i hi => h i (by omega)), h k (by omega)]
theorem sumTo_add {f g h : Nat → Int} : ∀ {k : Nat}, (∀ i, i < k → f i = g i + h i) → sumTo f k = sumTo g k + sumTo h k
  | 0, _ => rfl
  | k + 1, he => by unfold sumTo; rw [sumTo_add (fun i hi => he i (by omega)), he k (by omega)]; omega
theorem sumTo_zero {f : Nat → Int} : ∀ {k : Nat}, (∀ i, i < k → f i = 0) → sumTo f k = 0
  | 0, _ => rfl
  | k + 1, h => by unfold sumTo; rw [sumTo_zero (fun i hi => h i (by omega)), h k (by omega)]; rfl
theorem sumTo_one {f : Nat → Int} {x : Nat} : ∀ {k : Nat}, x < k → (∀ i, i < k → i ≠ x → f i = 0) → sumTo f k = f x
  | 0, h, _ => absurd h (Nat.not_lt_zero _)
  | k + 1, h, h0 => by
    unfold sumTo
    by_cases e : x = k
    · subst e
      rw [sumTo_zero (fun i hi => h0 i (by omega) (by omega))]; omega
    · rw [sumTo_one (x := x) (k := k) (by omega) (fun i hi => h0 i (by omega)), h0 k (by omega) (fun h => e h.symm)]; omega

/-- h is in this part of a game -/
def inb (p q h : Nat) : Bool := (h &&& p == p) && (h &&& q == 0)
theorem inb_bits {p q h : Nat} : inb p q h = true ↔ (∀ i, p.testBit i = true → h.testBit i = true) ∧ (∀ i, q.testBit i = true → h.testBit i = false) := by
  unfold inb
  rw [Bool.and_eq_true, beq_iff_eq, beq_iff_eq]
  constructor
  · rintro ⟨h1, h2⟩
    refine ⟨fun i hi => ?_, fun i hi => ?_⟩
    · have := congrArg (fun m : Nat => m.testBit i) h1
      simp only [Nat.testBit_and, hi, Bool.and_true] at this
      exact this
    · have := congrArg (fun m : Nat => m.testBit i) h2
      simp only [Nat.testBit_and, hi, Bool.and_true, Nat.zero_testBit] at this
      exact this
  · rintro ⟨h1, h2⟩
    refine ⟨Nat.eq_of_testBit_eq fun i => ?_, Nat.eq_of_testBit_eq fun i => ?_⟩
    · have := h1 i
      rw [Nat.testBit_and]
      cases hp : p.testBit i <;> simp_all
    · have := h2 i
      rw [Nat.testBit_and, Nat.zero_testBit]
      cases hq : q.testBit i <;> simp_all
theorem testBit_orp (p v i : Nat) : (p ||| 2 ^ v).testBit i = (p.testBit i || decide (v = i)) := by rw [Nat.testBit_or, Nat.testBit_two_pow]
theorem inb_yes {p q h v : Nat} : inb (p ||| 2 ^ v) q h = (inb p q h && h.testBit v) := by
  rw [Bool.eq_iff_iff, Bool.and_eq_true, inb_bits, inb_bits]
  constructor
  · rintro ⟨h1, h2⟩
    exact ⟨⟨fun i hi => h1 i (by rw [testBit_orp, hi]; rfl), h2⟩, h1 v (by rw [testBit_orp]; simp)⟩
  · rintro ⟨⟨h1, h2⟩, h3⟩
    refine ⟨fun i hi => ?_, h2⟩
    rw [testBit_orp, Bool.or_eq_true, decide_eq_true_eq] at hi
    rcases hi with hi | rfl
    · exact h1 i hi
    · exact h3
theorem inb_no {p q h v : Nat} : inb p (q ||| 2 ^ v) h = (inb p q h && !h.testBit v) := by
  rw [Bool.eq_iff_iff, Bool.and_eq_true, inb_bits, inb_bits]
  constructor
  · rintro ⟨h1, h2⟩
    exact ⟨⟨h1, fun i hi => h2 i (by rw [testBit_orp, hi]; rfl)⟩, by rw [h2 v (by rw [testBit_orp]; simp)]; rfl⟩
  · rintro ⟨⟨h1, h2⟩, h3⟩
    refine ⟨h1, fun i hi => ?_⟩
    rw [testBit_orp, Bool.or_eq_true, decide_eq_true_eq] at hi
    rcases hi with hi | rfl
    · exact h2 i hi
    · simpa using h3
/-- a sum over this part of a game -/
def sumB (N : Nat) (f : Nat → Int) (p q : Nat) : Int := sumTo (fun h => if inb p q h then f h else 0) N
theorem sumB_split (N : Nat) (f : Nat → Int) (p q v : Nat) : sumB N f p q = sumB N f (p ||| 2 ^ v) q + sumB N f p (q ||| 2 ^ v) := by
  unfold sumB
  refine sumTo_add (fun h _ => ?_)
  rw [inb_yes, inb_no]
  cases inb p q h <;> cases h.testBit v <;> simp
theorem inb_hid {p q h n : Nat} (hh : h < 2 ^ n) (hi : inb p q h = true) : h ∈ hidTo p q (2 ^ n) := by
  unfold inb at hi
  rw [Bool.and_eq_true, beq_iff_eq, beq_iff_eq] at hi
  exact hid_mem.2 ⟨hh, hi.1, hi.2⟩
theorem free_of {n p q : Nat} (h : lefts n p q ≠ 0) : ∃ v, v < n ∧ (p ||| q).testBit v = false := by
  unfold lefts at h
  cases hl : frees (p ||| q) n with
  | nil => rw [hl] at h; exact absurd rfl h
  | cons v r => exact ⟨v, frees_mem.1 (by rw [hl]; exact List.mem_cons_self)⟩
theorem last_one {n p q h : Nat} (hp : Pl n p q) (h0 : lefts n p q = 0) (hh : h < 2 ^ n) (hi : inb p q h = true) : h = p := by
  obtain ⟨h1, h2⟩ := inb_bits.1 hi
  apply Nat.eq_of_testBit_eq
  intro i
  by_cases hin : i < n
  · have hm : ¬ i ∈ frees (p ||| q) n := by
      intro hm
      unfold lefts at h0
      rw [List.eq_nil_of_length_eq_zero h0] at hm
      cases hm
    rw [frees_mem] at hm
    have hb : (p ||| q).testBit i = true := by
      cases hb : (p ||| q).testBit i with
      | true => rfl
      | false => exact absurd ⟨hin, hb⟩ hm
    rw [Nat.testBit_or, Bool.or_eq_true] at hb
    rcases hb with hb | hb
    · rw [hb, h1 i hb]
    · rw [h2 i hb]
      cases hpi : p.testBit i with
      | false => rfl
      | true => rw [hp.bit i hpi] at hb; cases hb
  · have hp' : p.testBit i = false := Nat.testBit_lt_two_pow (Nat.lt_of_lt_of_le hp.hp (Nat.pow_le_pow_right (by omega) (by omega)))
    have hx : h.testBit i = false := Nat.testBit_lt_two_pow (Nat.lt_of_lt_of_le hh (Nat.pow_le_pow_right (by omega) (by omega)))
    rw [hp', hx]
theorem inb_self {n p q : Nat} (hp : Pl n p q) : inb p q p = true := inb_bits.2 ⟨fun _ h => h, fun i hq => by
  cases hpi : p.testBit i with
  | false => rfl
  | true => rw [hp.bit i hpi] at hq; cases hq⟩
theorem sumB_last {n p q : Nat} (hp : Pl n p q) (h0 : lefts n p q = 0) (f : Nat → Int) : sumB (2 ^ n) f p q = f p := by
  unfold sumB
  rw [sumTo_one (x := p) hp.hp (fun i hi hne => by
    cases hb : inb p q i with
    | false => rfl
    | true => exact absurd (last_one hp h0 hi hb) hne), if_pos (inb_self hp)]

/-! signs -/
def sg (h : Nat) : Int := if ones h % 2 = 0 then 1 else -1
theorem sg_or : ∀ p, p < 64 → ∀ v, v < 6 → p.testBit v = false → sg (p ||| 2 ^ v) = - sg p := by decide +kernel
theorem sg_zero {n : Nat} (hn : n ≤ 6) : ∀ f p q, Pl n p q → lefts n p q = f + 1 → sumB (2 ^ n) sg p q = 0
  | 0, p, q, hp, hl => by
    obtain ⟨v, hv, hf⟩ := free_of (n := n) (p := p) (q := q) (by omega)
    have h1 := lefts_p hn hp hv hf
    have h2 := lefts_q hn hp hv hf
    rw [sumB_split _ _ _ _ v, sumB_last (hp.yes hv hf) (by omega), sumB_last (hp.no hv hf) (by omega)]
    rw [Nat.testBit_or, Bool.or_eq_false_iff] at hf
    have := hp.lt hn
    rw [sg_or p this.1 v (by omega) hf.1]
    omega
  | f + 1, p, q, hp, hl => by
    obtain ⟨v, hv, hf⟩ := free_of (n := n) (p := p) (q := q) (by omega)
    have h1 := lefts_p hn hp hv hf
    have h2 := lefts_q hn hp hv hf
    rw [sumB_split _ _ _ _ v, sg_zero hn f _ _ (hp.yes hv hf) (by omega), sg_zero hn f _ _ (hp.no hv hf) (by omega)]
    rfl
/-- signs of the sets that count -/
def sgC (xs : List Int) (h : Nat) : Int := if countB xs (h : Int) then sg h else 0
theorem need_sum {n : Nat} (hn : n ≤ 6) (xs : List Int) : ∀ f p q, Pl n p q → lefts n p q = f → needV n xs p q < lefts n p q → sumB (2 ^ n) (sgC xs) p q = 0
  | 0, p, q, hp, hl, h => by have := (needV_bd n xs p q).1; omega
  | f + 1, p, q, hp, hl, h => by
    by_cases ht : 0 ≤ toldV n xs p q
    · obtain ⟨b, hb⟩ := told_same ht
      have e : sumB (2 ^ n) (sgC xs) p q = sumB (2 ^ n) (fun h => if b then sg h else 0) p q := by
        unfold sumB
        refine sumTo_congr (fun i hi => ?_)
        cases hin : inb p q i with
        | false => rfl
        | true => show sgC xs i = _; unfold sgC; rw [hb i (inb_hid hi hin)]; rfl
      rw [e]
      cases b with
      | true => exact sg_zero hn f p q hp hl
      | false =>
        unfold sumB
        exact sumTo_zero (fun i _ => by cases inb p q i <;> rfl)
    · rw [needV_open hn hp ht] at h
      rcases leastOf_at (n : Int) (frees (p ||| q) n) (needAt n xs p q) with h1 | ⟨v, hv, h1⟩
      · have := frees_len (p ||| q) n
        unfold needTo at h
        unfold lefts at h
        omega
      · rw [frees_mem] at hv
        obtain ⟨hv, hf⟩ := hv
        have l1 := lefts_p hn hp hv hf
        have l2 := lefts_q hn hp hv hf
        unfold needTo at h
        rw [h1] at h
        unfold needAt at h
        rw [sumB_split _ _ _ _ v, need_sum hn xs f _ _ (hp.yes hv hf) (by omega) (by omega), need_sum hn xs f _ _ (hp.no hv hf) (by omega) (by omega)]
        rfl

/-! numbers of questions and least numbers of evaders -/
theorem need_le {n : Nat} (hn : n ≤ 6) (xs : List Int) : ∀ f p q, Pl n p q → lefts n p q = f → needV n xs p q ≤ lefts n p q
  | 0, p, q, hp, hl => by rw [needV_told (told_all hp hl)]; omega
  | f + 1, p, q, hp, hl => by
    by_cases ht : 0 ≤ toldV n xs p q
    · rw [needV_told ht]; omega
    · obtain ⟨v, hv, hf⟩ := free_of (n := n) (p := p) (q := q) (by omega)
      have l1 := lefts_p hn hp hv hf
      have l2 := lefts_q hn hp hv hf
      rw [needV_open hn hp ht]
      have h1 := (leastOf_le (b := (n : Int)) (l := frees (p ||| q) n) (f := needAt n xs p q)).2 v (frees_mem.2 ⟨hv, hf⟩)
      unfold needTo
      unfold needAt at h1 ⊢
      have h3 := need_le hn xs f _ _ (hp.yes hv hf) (by omega)
      have h4 := need_le hn xs f _ _ (hp.no hv hf) (by omega)
      omega
theorem need_evade {n : Nat} (hn : n ≤ 6) (xs : List Int) : ∀ f p q, Pl n p q → lefts n p q = f + 1 → (needV n xs p q = lefts n p q ↔ 0 < leastV n xs p q)
  | f, p, q, hp, hl => by
    by_cases ht : 0 ≤ toldV n xs p q
    · rw [needV_told ht, leastV_told ht]; omega
    · have hle := need_le hn xs _ _ _ hp rfl
      by_cases h1 : lefts n p q = 1
      · rw [leastV_last ht h1]
        refine ⟨fun _ => by decide, fun _ => ?_⟩
        rw [needV_open hn hp ht] at hle ⊢
        have : (1 : Int) ≤ needTo n xs p q n := by
          have hfl := frees_len (p ||| q) n
          unfold lefts at h1
          exact leastOf_ge (by omega) (fun v _ => by unfold needAt; have := needV_bd n xs (p ||| 2 ^ v) q; omega)
        omega
      · match f, hl with
        | 0, hl => exact absurd hl h1
        | f + 1, hl =>
          rw [leastV_open hn hp ht h1]
          constructor
          · intro he
            have : (1 : Int) ≤ leastTo n xs p q n := by
              refine leastOf_ge (by decide) (fun v hv => ?_)
              have hm := (leastOf_le (b := (n : Int)) (l := frees (p ||| q) n) (f := needAt n xs p q)).2 v hv
              rw [needV_open hn hp ht] at he
              unfold needTo at he
              rw [he] at hm
              rw [frees_mem] at hv
              obtain ⟨hv, hf⟩ := hv
              have l1 := lefts_p hn hp hv hf
              have l2 := lefts_q hn hp hv hf
              unfold needAt at hm
              have e1 := need_evade hn xs f _ _ (hp.yes hv hf) (by omega)
              have e2 := need_evade hn xs f _ _ (hp.no hv hf) (by omega)
              have b1 := leastV_bd n xs (p ||| 2 ^ v) q
              have b2 := leastV_bd n xs p (q ||| 2 ^ v)
              have d1 := need_le hn xs _ _ _ (hp.yes hv hf) rfl
              have d2 := need_le hn xs _ _ _ (hp.no hv hf) rfl
              unfold leastAt
              by_cases hc : needV n xs (p ||| 2 ^ v) q = lefts n (p ||| 2 ^ v) q
              · have := e1.1 hc; omega
              · have := e2.1 (by omega); omega
            omega
          · intro he
            have : (lefts n p q : Int) ≤ needTo n xs p q n := by
              have hfl := frees_len (p ||| q) n
              refine leastOf_ge (by unfold lefts; omega) (fun v hv => ?_)
              have hm := (leastOf_le (b := (64 : Int)) (l := frees (p ||| q) n) (f := leastAt n xs p q)).2 v hv
              unfold leastTo at he
              rw [frees_mem] at hv
              obtain ⟨hv, hf⟩ := hv
              have l1 := lefts_p hn hp hv hf
              have l2 := lefts_q hn hp hv hf
              have e1 := need_evade hn xs f _ _ (hp.yes hv hf) (by omega)
              have e2 := need_evade hn xs f _ _ (hp.no hv hf) (by omega)
              unfold leastAt at he hm
              unfold needAt
              by_cases hc : 0 < leastV n xs (p ||| 2 ^ v) q
              · have := e1.2 hc; omega
              · have := e2.2 (by omega); omega
            rw [needV_open hn hp ht] at hle ⊢
            omega

/-! evaders of a tree -/
theorem way_same {t : List Int} {h k : Nat} : ∀ i, inb (yess t h i) (noes t h i) k = true → plc t k i = plc t h i ∧ yess t k i = yess t h i ∧ noes t k i = noes t h i
  | 0, _ => ⟨rfl, rfl, rfl⟩
  | i + 1, hi => by
    cases hb : h.testBit (qN t (plc t h i)) with
    | true =>
      rw [yess_yes hb, noes_yes hb, inb_yes, Bool.and_eq_true] at hi
      obtain ⟨h1, h2, h3⟩ := way_same i hi.1
      have hk : k.testBit (qN t (plc t k i)) = true := by rw [h1]; exact hi.2
      rw [yess_yes hb, noes_yes hb, yess_yes hk, noes_yes hk, plc_yes hb, plc_yes hk, h1, h2, h3]
      exact ⟨rfl, rfl, rfl⟩
    | false =>
      rw [yess_no hb, noes_no hb, inb_no, Bool.and_eq_true] at hi
      obtain ⟨h1, h2, h3⟩ := way_same i hi.1
      have hk : k.testBit (qN t (plc t k i)) = false := by rw [h1]; simpa using hi.2
      rw [yess_no hb, noes_no hb, yess_no hk, noes_no hk, plc_no hb, plc_no hk, h1, h2, h3]
      exact ⟨rfl, rfl, rfl⟩
theorem inb_less {t : List Int} {h k : Nat} {i : Nat} (hi : inb (yess t h (i + 1)) (noes t h (i + 1)) k = true) : inb (yess t h i) (noes t h i) k = true := by
  cases hb : h.testBit (qN t (plc t h i)) with
  | true => rw [yess_yes hb, noes_yes hb, inb_yes, Bool.and_eq_true] at hi; exact hi.1
  | false => rw [yess_no hb, noes_no hb, inb_no, Bool.and_eq_true] at hi; exact hi.1
theorem inb_down {t : List Int} {h k : Nat} {i : Nat} : ∀ d, inb (yess t h (i + d)) (noes t h (i + d)) k = true → inb (yess t h i) (noes t h i) k = true
  | 0, hi => hi
  | d + 1, hi => inb_down d (inb_less hi)
theorem told_alike {n : Nat} {xs t : List Int} {h k i j : Nat} (hi : inb (yess t h i) (noes t h i) k = true) (hj : j ≤ i) : toldAt n xs t k j = toldAt n xs t h j := by
  obtain ⟨d, rfl⟩ : ∃ d, i = j + d := ⟨i - j, by omega⟩
  obtain ⟨-, h2, h3⟩ := way_same j (inb_down d hi)
  unfold toldAt
  rw [h2, h3]
theorem needed_n {n : Nat} {xs t : List Int} {h : Nat} : neededV n xs t h = n ↔ ∀ j, j < n → toldAt n xs t h j = false := by
  constructor
  · intro he j hj
    unfold neededV firstTold at he
    have := List.findIdx_eq_length (p := toldAt n xs t h) (xs := List.range n)
    rw [List.length_range] at this
    exact this.1 he j (List.mem_range.2 hj)
  · intro h0
    exact firstTold_none h0
/-- one for each evader -/
def evI (n : Nat) (xs t : List Int) (h : Nat) : Int := if neededV n xs t h = n then 1 else 0
theorem evade_sum {n : Nat} (hn : n ≤ 6) {xs t : List Int} (ht : treeOk n t = true) : ∀ d i h, i + d = n → (∀ j, j < i → toldAt n xs t h j = false) →
    leastV n xs (yess t h i) (noes t h i) ≤ sumB (2 ^ n) (evI n xs t) (yess t h i) (noes t h i) ∧ (d = 0 → sumB (2 ^ n) (evI n xs t) (yess t h i) (noes t h i) = 1) ∧ (0 < d → sumB (2 ^ n) (evI n xs t) (yess t h i) (noes t h i) % 2 = 0)
  | 0, i, h, hi, h0 => by
    obtain rfl : i = n := by omega
    have hp := (way_pl ht h i (Nat.le_refl _)).1
    have hl : lefts i (yess t h i) (noes t h i) = 0 := by have := way_left hn ht h i (Nat.le_refl _); omega
    have e : sumB (2 ^ i) (evI i xs t) (yess t h i) (noes t h i) = 1 := by
      rw [sumB_last hp hl]
      unfold evI
      rw [if_pos (needed_n.2 (fun j hj => by rw [told_alike (inb_self hp) (by omega)]; exact h0 j hj))]
    rw [e, leastV_told (told_all hp hl)]
    exact ⟨by decide, fun _ => rfl, fun h => absurd h (Nat.lt_irrefl _)⟩
  | d + 1, i, h, hi, h0 => by
    have hpl := way_pl ht h i (by omega)
    have hp := hpl.1
    have hf := hpl.2 (by omega)
    have hb := plc_bd t h i
    have h2 : 2 ^ (i + 1) ≤ 2 ^ n := Nat.pow_le_pow_right (by omega) (by omega)
    have h01 : 1 ≤ 2 ^ i := Nat.one_le_two_pow
    have hq := tree_in ht (p := plc t h i) (by omega) (by omega)
    have hv : qN t (plc t h i) < n := hq.2.2.2
    have hl := way_left hn ht h i (by omega)
    by_cases hto : 0 ≤ toldV n xs (yess t h i) (noes t h i)
    · have e : sumB (2 ^ n) (evI n xs t) (yess t h i) (noes t h i) = 0 := by
        unfold sumB
        refine sumTo_zero (fun k hk => ?_)
        cases hin : inb (yess t h i) (noes t h i) k with
        | false => rfl
        | true =>
          show evI n xs t k = 0
          unfold evI
          refine if_neg (fun he => ?_)
          have h3 := needed_n.1 he i (by omega)
          rw [told_alike hin (Nat.le_refl _)] at h3
          unfold toldAt at h3
          rw [decide_eq_false_iff_not] at h3
          exact h3 hto
      rw [e, leastV_told hto]
      exact ⟨Int.le_refl _, fun h => by omega, fun _ => rfl⟩
    · generalize hvv : qN t (plc t h i) = v at *
      -- the two that follow
      have hy : inb (yess t h i) (noes t h i) (yess t h i ||| 2 ^ v) = true := by
        refine inb_bits.2 ⟨fun j hj => by rw [testBit_orp, hj]; rfl, fun j hj => ?_⟩
        rw [testBit_orp]
        have h1 : (yess t h i).testBit j = false := by
          cases hc : (yess t h i).testBit j with
          | false => rfl
          | true => rw [hp.bit j hc] at hj; cases hj
        rw [h1, Bool.false_or, decide_eq_false_iff_not]
        rintro rfl
        rw [Nat.testBit_or, hj, Bool.or_true] at hf
        cases hf
      have hx : inb (yess t h i) (noes t h i) (yess t h i) = true := inb_self hp
      obtain ⟨y1, y2, y3⟩ := way_same i hy
      obtain ⟨x1, x2, x3⟩ := way_same i hx
      have by1 : (yess t h i ||| 2 ^ v).testBit (qN t (plc t (yess t h i ||| 2 ^ v) i)) = true := by rw [y1, hvv, testBit_orp]; simp
      have bx1 : (yess t h i).testBit (qN t (plc t (yess t h i) i)) = false := by
        rw [x1, hvv]
        rw [Nat.testBit_or, Bool.or_eq_false_iff] at hf
        exact hf.1
      have h0y : ∀ j, j < i + 1 → toldAt n xs t (yess t h i ||| 2 ^ v) j = false := fun j hj => by
        rw [told_alike hy (by omega)]
        by_cases hji : j = i
        · subst hji; unfold toldAt; rw [decide_eq_false_iff_not]; exact hto
        · exact h0 j (by omega)
      have h0x : ∀ j, j < i + 1 → toldAt n xs t (yess t h i) j = false := fun j hj => by
        rw [told_alike hx (by omega)]
        by_cases hji : j = i
        · subst hji; unfold toldAt; rw [decide_eq_false_iff_not]; exact hto
        · exact h0 j (by omega)
      have iy := evade_sum hn ht d (i + 1) (yess t h i ||| 2 ^ v) (by omega) h0y
      have ix := evade_sum hn ht d (i + 1) (yess t h i) (by omega) h0x
      rw [yess_yes by1, noes_yes by1, y1, y2, y3, hvv] at iy
      rw [yess_no bx1, noes_no bx1, x1, x2, x3, hvv] at ix
      rw [sumB_split _ _ _ _ v]
      refine ⟨?_, fun h => by omega, fun _ => ?_⟩
      · by_cases h1 : lefts n (yess t h i) (noes t h i) = 1
        · have hd : d = 0 := by omega
          rw [leastV_last hto h1, iy.2.1 hd, ix.2.1 hd]
          decide
        · rw [leastV_open hn hp hto h1]
          have hm := (leastOf_le (b := (64 : Int)) (l := frees (yess t h i ||| noes t h i) n) (f := leastAt n xs (yess t h i) (noes t h i))).2 v (frees_mem.2 ⟨hv, hf⟩)
          unfold leastTo
          unfold leastAt at hm ⊢
          have := iy.1
          have := ix.1
          omega
      · by_cases hd : d = 0
        · rw [iy.2.1 hd, ix.2.1 hd]; rfl
        · have := iy.2.2 (by omega)
          have := ix.2.2 (by omega)
          omega
theorem evTo_sum (n : Nat) (xs t : List Int) : ∀ k, ((evTo n xs t k).length : Int) = sumTo (evI n xs t) k
  | 0 => rfl
  | k + 1 => by
    unfold sumTo
    rw [← evTo_sum n xs t k]
    unfold evI
    by_cases h : neededV n xs t k = n
    · rw [evTo_hit h, if_pos h, List.length_append]; simp
    · rw [evTo_miss h, if_neg h]; simp
theorem sumB_all (N : Nat) (f : Nat → Int) : sumB N f 0 0 = sumTo f N := by
  unfold sumB
  refine sumTo_congr (fun i _ => ?_)
  rw [if_pos (by unfold inb; simp)]
theorem ev_least {n : Nat} (h1 : 1 ≤ n) (hn : n ≤ 6) {xs t : List Int} (ht : treeOk n t = true) : leastV n xs 0 0 ≤ ((evTo n xs t (2 ^ n)).length : Int) ∧ (evTo n xs t (2 ^ n)).length % 2 = 0 := by
  have h := evade_sum hn (xs := xs) ht n 0 0 (by omega) (fun j hj => absurd hj (Nat.not_lt_zero _))
  have e : sumB (2 ^ n) (evI n xs t) (yess t 0 0) (noes t 0 0) = ((evTo n xs t (2 ^ n)).length : Int) := by
    rw [evTo_sum]; exact sumB_all _ _
  rw [e] at h
  exact ⟨h.1, by have := h.2.2 (by omega); omega⟩
theorem evTo_mem {n : Nat} {xs t : List Int} {k h : Nat} : (h : Int) ∈ evTo n xs t k ↔ h < k ∧ neededV n xs t h = n := by
  unfold evTo
  rw [List.mem_filterMap]
  constructor
  · rintro ⟨a, ha, he⟩
    rw [List.mem_range] at ha
    split at he
    · next h2 =>
      rw [Option.some.injEq, Int.ofNat_inj] at he
      subst he
      exact ⟨ha, h2⟩
    · cases he
  · rintro ⟨h1, h2⟩
    exact ⟨h, List.mem_range.2 h1, if_pos h2⟩

/-! Euler numbers -/
def eulT (x : Int) : Int := 1 - 2 * Int.tmod ((ones x.toNat : Int) - 1) 2
def eulV (xs : List Int) : Int := (xs.map eulT).sum
theorem eulT_sg : ∀ f : Nat, f < 64 → 0 < f → eulT (f : Int) = - sg f := by decide +kernel
theorem sum_mem {f : Nat → Int} {N : Nat} : ∀ (xs : List Int), xs.Pairwise (· < ·) → (∀ x ∈ xs, 1 ≤ x ∧ x < N) → sumTo (fun h => if (h : Int) ∈ xs then f h else 0) N = (xs.map fun x => f x.toNat).sum
  | [], _, _ => sumTo_zero (fun i _ => by simp)
  | x :: r, hp, hb => by
    rw [List.pairwise_cons] at hp
    have hx := hb x List.mem_cons_self
    have ih := sum_mem (f := f) (N := N) r hp.2 (fun y hy => hb y (List.mem_cons_of_mem _ hy))
    rw [List.map_cons, List.sum_cons, ← ih]
    have e : f x.toNat = sumTo (fun h => if h = x.toNat then f h else 0) N := by
      rw [sumTo_one (x := x.toNat) (by omega) (fun i _ hne => if_neg hne), if_pos rfl]
    rw [e]
    refine sumTo_add (fun i hi => ?_)
    by_cases h1 : i = x.toNat
    · have h2 : (i : Int) = x := by omega
      have h3 : ¬ (i : Int) ∈ r := fun hc => by have := hp.1 _ hc; omega
      rw [if_pos h1, if_neg h3, if_pos (by rw [h2]; exact List.mem_cons_self)]; omega
    · rw [if_neg h1]
      by_cases h2 : (i : Int) ∈ r
      · rw [if_pos h2, if_pos (List.mem_cons_of_mem _ h2)]; omega
      · rw [if_neg h2, if_neg (fun hc => by rcases List.mem_cons.1 hc with h3 | h3; omega; exact h2 h3)]; omega
theorem eul_sum {n : Nat} {xs : List Int} (hc : Cx n xs) : sumB (2 ^ n) (sgC xs) 0 0 = 1 - eulV xs := by
  have h6 := pw6 hc.hi
  rw [sumB_all]
  have e1 : sumTo (sgC xs) (2 ^ n) = sumTo (fun h => if h = 0 then 1 else 0) (2 ^ n) + sumTo (fun h => if (h : Int) ∈ xs then sg h else 0) (2 ^ n) := by
    refine sumTo_add (fun i hi => ?_)
    unfold sgC countB
    by_cases h0 : i = 0
    · subst h0
      have h3 : ¬ ((0 : Nat) : Int) ∈ xs := fun hm => by have := hc.bd _ hm; omega
      rw [if_neg h3]
      rfl
    · have h3 : ((i : Int) == 0) = false := by rw [beq_eq_false_iff_ne]; omega
      rw [h3, Bool.false_or, if_neg h0]
      by_cases h4 : (i : Int) ∈ xs
      · rw [if_pos h4, decide_eq_true h4]; simp
      · rw [if_neg h4, decide_eq_false h4]; rfl
  have h0 : 0 < 2 ^ n := Nat.two_pow_pos n
  rw [e1, sumTo_one (x := 0) h0 (fun i _ hne => if_neg hne), if_pos rfl, sum_mem xs hc.asc (fun x hx => by have := hc.bd x hx; omega)]
  unfold eulV
  have e2 : ∀ l : List Int, (∀ x ∈ l, 1 ≤ x ∧ x ≤ 63) → (l.map fun x => sg x.toNat).sum = - (l.map eulT).sum := by
    intro l
    induction l with
    | nil => intro _; rfl
    | cons x r ih =>
      intro h
      have hx := h x List.mem_cons_self
      rw [List.map_cons, List.sum_cons, List.map_cons, List.sum_cons, ih (fun y hy => h y (List.mem_cons_of_mem _ hy))]
      have := eulT_sg x.toNat (by omega) (by omega)
      rw [show ((x.toNat : Nat) : Int) = x by omega] at this
      omega
  rw [e2 xs (fun x hx => by have := hc.bd x hx; omega)]
  omega
theorem eul_need {n : Nat} {xs : List Int} (hc : Cx n xs) (h : needV n xs 0 0 ≠ n) : eulV xs = 1 := by
  have hl : lefts n 0 0 = n := by
    unfold lefts frees
    rw [List.filter_eq_self.2 (fun v _ => by simp)]
    simp
  have hle := need_le hc.hi xs _ _ _ (pl_zero n) rfl
  have := need_sum hc.hi xs _ _ _ (pl_zero n) rfl (by rw [hl] at hle ⊢; omega)
  rw [eul_sum hc] at this
  omega
end Go.Proofs.Ytkggchklmpmgpaa.H

namespace Go.Proofs.Ytkggchklmpmgpaa.H
open Go.RowKit Go.Proofs.YtkggchklmpmgpaaW.PrintWords Go.Proofs.YtkggchklmpmgpaaW.PrintLast Go.Proofs.YtkggchklmpmgpaaW.PrintMore
set_option linter.unusedVariables false
set_option linter.unusedSimpArgs false

end Go.Proofs.Ytkggchklmpmgpaa.H

namespace Go.Proofs.Ytkggchklmpmgpaa.H
open Go.RowKit Go.Proofs.YtkggchklmpmgpaaW.PrintWords Go.Proofs.YtkggchklmpmgpaaW.PrintLast Go.Proofs.YtkggchklmpmgpaaW.PrintMore
set_option linter.unusedVariables false
set_option linter.unusedSimpArgs false

/-- a slice of the call's own, cut -/
theorem OwnI.cut {b : Nat} {w : World} {g n cap : Nat} {xs : List Int} (h : OwnI b w (.slice (some ⟨g, 0, none⟩) n cap) xs) {i : Nat} (hi : i ≤ n) : OwnI b w (.slice (some ⟨g, 0, none⟩) i cap) (xs.take i) := by
  have ho := Kd.own_of_R h
  have hn : xs.length = n := by
    obtain ⟨A, c, e, -⟩ := h.read
    injection e with _ e _
    exact e.symm
  obtain ⟨h1, h2⟩ := ho
  rcases h2 with ⟨h2, _⟩ | ⟨g', cap', cur, e, hb, hh, hl, hm, hs, ht⟩
  · cases h2
  · cases e
    refine OwnI.of_row (b' := b) ⟨?_, .inr ⟨g, cap, cur, ?_, hb, hh, ?_, hm, hs, ?_⟩⟩ (Nat.le_refl _)
    · rw [List.length_map, Nat.mul_one]
    · rw [List.length_take, Nat.min_eq_left (by omega)]
    · rw [List.length_take]; omega
    · have h3 := congrArg (List.take i) ht
      rw [List.take_take, Nat.mul_one, Nat.min_eq_left (by omega)] at h3
      rw [List.length_take, Nat.min_eq_left (by omega), Nat.mul_one, h3]
      show List.take i (xs.map (Value.int .i64)) = _
      rw [List.map_take]
/-- a slice of the call's own, whatever its capacity -/
def OwnQ (b : Nat) (w : World) (v : Value) (xs : List Int) : Prop := ∃ A c c', v = .slice A xs.length c ∧ xs.length ≤ c ∧ OwnI b w (.slice A xs.length c') xs
theorem OwnQ.of {b : Nat} {w : World} {v : Value} {xs : List Int} (h : OwnI b w v xs) : OwnQ b w v xs := by
  obtain ⟨A, c, rfl, hc, -⟩ := id h.read
  exact ⟨A, c, c, rfl, hc, h⟩
theorem OwnQ.nil (b : Nat) (w : World) : OwnQ b w (.slice none 0 0) [] := OwnQ.of (OwnI.nil b w)
theorem OwnQ.read {b : Nat} {w : World} {v : Value} {xs : List Int} (h : OwnQ b w v xs) : ReadI w v xs := by
  obtain ⟨A, c, c', rfl, hc, ho⟩ := h
  obtain ⟨A', c'', e, -, hr⟩ := ho.read
  injection e with e
  subst e
  exact ⟨A, c, rfl, hc, hr⟩
theorem OwnQ.below {b : Nat} {w w' : World} {v : Value} {xs : List Int} (h : OwnQ b w v xs) (hb : Below w.heap.size w w') : OwnQ b w' v xs := by
  obtain ⟨A, c, c', rfl, hc, ho⟩ := h
  exact ⟨A, c, c', rfl, hc, ho.below hb⟩
theorem OwnQ.lower {b b' : Nat} {w : World} {v : Value} {xs : List Int} (h : OwnQ b w v xs) (hb : b' ≤ b) : OwnQ b' w v xs := by
  obtain ⟨A, c, c', rfl, hc, ho⟩ := h
  exact ⟨A, c, c', rfl, hc, ho.lower hb⟩
theorem own_blk (A : Option Addr) (n c c' : Nat) : (Value.slice A n c).ownBlock = (Value.slice A n c').ownBlock := by cases A <;> rfl
theorem OwnQ.base {b : Nat} {w : World} {v : Value} {xs : List Int} (h : OwnQ b w v xs) : ∀ k, v.ownBlock = some k → b ≤ k := by
  obtain ⟨A, c, c', rfl, hc, ho⟩ := h
  intro k hk
  exact ho.base k (by rw [own_blk A _ c' c]; exact hk)
theorem OwnQ.lt {b : Nat} {w : World} {v : Value} {xs : List Int} (h : OwnQ b w v xs) : ∀ k, v.ownBlock = some k → k < w.heap.size := by
  obtain ⟨A, c, c', rfl, hc, ho⟩ := h
  intro k hk
  exact ho.lt k (by rw [own_blk A _ c' c]; exact hk)
theorem OwnQ.grown {b : Nat} {w w' : World} {v : Value} {xs : List Int} (h : OwnQ b w v xs) {row : Option Nat} (hg : w.grownBy w' row) (hn : ∀ k, v.ownBlock = some k → some k ≠ row) : OwnQ b w' v xs := by
  obtain ⟨A, c, c', rfl, hc, ho⟩ := h
  exact ⟨A, c, c', rfl, hc, ho.grown hg (fun k hk => hn k (by rw [own_blk A _ c c']; exact hk))⟩
set_option maxRecDepth 100000 in
set_option maxHeartbeats 1000000 in
theorem specOwn (v : Value) (xs : List Int) (w : World) (hv : ReadI w v xs) (hl : xs.length ≤ 1000000) :
    Calls Try.prog 83 #[v] w fun e w' => ∃ u, e = .returned u ∧ OwnI w.heap.size w' u xs ∧ Below w.heap.size w w' := by
  obtain ⟨A, c, rfl, hc, hr⟩ := id hv
  obtain ⟨w1, hw1⟩ : ∃ w1, w1 = w.alloc (.cells #[] 2) := ⟨_, rfl⟩
  have hB : Below w.heap.size w w1 := by rw [hw1]; exact Below.alloc (Below.refl _ _) (Nat.le_refl _) _
  have hs1 : w.heap.size ≤ w1.heap.size := hB.size
  have HO := Aside0.mk (show OwnI w.heap.size w1 (.slice (some ⟨w.heap.size, 0, none⟩) 0 0) [] by rw [hw1]; exact OwnI.empty w (Nat.le_refl _))
  have HB := Aside0.mk hB
  have HR := Aside0.mk (Kd.C_below hr hB)
  clear hr hv hB
  go_enter Try.func83, Try.ntmps83
  go_wp2_with (first | ((with_reducible refine gate_builtin (b := .append) (xs := #[.tmp 3, .tmp 4]) rfl ?_); rw [← hw1]; clear hw1; refine Kd.R_append_row (Value.int .i64) (0 : Int) (w0 := w) w.heap.size rfl (.tmp 3) (.tmp 4) 22 2 (.int .i64 0) 8 rfl Try.underlying22 info64 rfl (by decide) _ [] xs A xs.length c (fun _ => True) rfl rfl (fun _ _ => trivial) HO.out HR.out HB.out hs1 (by simp; omega) ?_; intro v1 w2 ho hb hg hat; have HO2 := Aside0.mk ho; have HB2 := Aside0.mk hb; clear ho hb hg hat))
  go_ret
  exact ⟨_, rfl, HO2.out, HB2.out⟩
end Go.Proofs.Ytkggchklmpmgpaa.H
