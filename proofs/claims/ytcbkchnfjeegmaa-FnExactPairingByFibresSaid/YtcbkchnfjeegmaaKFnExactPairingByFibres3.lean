/- What a complex is: of the program and of the reference. What a complex is, of the reference. Maps between complexes: isMap, mapCode, IsMap. slices.IndexFunc, slices.ContainsFunc and areAll at [][]int64. -/
import Derived.Test.YtcbkchnfjeegmaaKFnExactPairingByFibres1
import Derived.Test.YtcbkchnfjeegmaaKFnExactPairingByFibres2

namespace Go.Proofs.Ytcbkchnfjeegmaa.H
open Go.RowKit Go.Proofs.YtcbkchnfjeegmaaW.PrintWords Go.Proofs.YtcbkchnfjeegmaaW.PrintLast Go.Proofs.YtcbkchnfjeegmaaW.PrintMore
set_option linter.unusedVariables false
set_option linter.unusedSimpArgs false

theorem pow_wrap62 : ∀ v, v < 63 → wrap64 ((2 : Int) ^ v) = ((2 ^ v : Nat) : Int) := by decide +kernel
theorem pow_bd62 : ∀ v, v < 63 → 1 ≤ 2 ^ v ∧ 2 ^ v ≤ 4611686018427387904 := by decide +kernel

theorem OwnI.empty {b : Nat} (w : World) (hb : b ≤ w.heap.size) : OwnI b (w.alloc (.cells #[] 2)) (.slice (some ⟨w.heap.size, 0, none⟩) 0 0) [] :=
  OwnI.of_row (xs := []) ⟨rfl, .inr ⟨w.heap.size, 0, #[], rfl, hb, World.alloc_heap_new _ _, Nat.le_refl _, by decide, rfl, rfl⟩⟩ (Nat.le_refl _)
/-- what the reference collects over the first k places, from 62 down -/
def blw (f k : Nat) : List Int := (List.range k).filterMap fun i => if f.testBit (62 - i) && !(f == 2 ^ (62 - i)) then some ((f : Int) - ((2 ^ (62 - i) : Nat) : Int)) else none
theorem blw_hit (f v : Nat) (hv : v ≤ 62) (h : f.testBit v = true) (h2 : ¬ f = 2 ^ v) : blw f (62 - v + 1) = blw f (62 - v) ++ [(f : Int) - ((2 ^ v : Nat) : Int)] := by
  unfold blw
  rw [List.range_succ, List.filterMap_append]
  have e : 62 - (62 - v) = v := by omega
  simp [e, h, h2]
theorem blw_miss (f v : Nat) (hv : v ≤ 62) (h : f.testBit v = false ∨ f = 2 ^ v) : blw f (62 - v + 1) = blw f (62 - v) := by
  unfold blw
  rw [List.range_succ, List.filterMap_append]
  have e : 62 - (62 - v) = v := by omega
  rcases h with h | h <;> simp [e, h]
theorem blw_len (f k : Nat) : (blw f k).length ≤ k := by
  unfold blw
  exact Nat.le_trans (List.length_filterMap_le _ _) (by simp)
theorem blw_all : ∀ f, f < 64 → blw f 63 = below f := by decide +kernel

set_option maxHeartbeats 1000000 in
theorem specBelow (f : Nat) (hf : f ≤ 63) (w : World) :
    Calls Try.prog 103 #[.int .i64 f] w fun e w' => ∃ v, e = .returned v ∧ OwnI w.heap.size w' v (below f) ∧ Below w.heap.size w w' := by
  rw [← blw_all f (by omega)]
  go_enter Try.func103, Try.ntmps103
  go_wp2
  go_loopw [3, 4] (fun v i wr => ∃ k : Nat, i = .int .i64 ((k : Int) - 1) ∧ k ≤ 63 ∧ Aside0 (OwnI w.heap.size wr v (blw f (63 - k))) ∧ Aside0 (Below w.heap.size w wr)) (fun _ i _ => (intOf i + 1).toNat)
  case atStart => exact ⟨63, rfl, by omega, ⟨by simp [blw]; exact OwnI.empty _ (Nat.le_refl _)⟩, ⟨Below.alloc (Below.refl _ _) (Nat.le_refl _) _⟩⟩
  case round =>
    obtain ⟨k, rfl, hk, HO, HB⟩ := hrel
    by_cases hlt : 0 < k
    · obtain ⟨v, rfl⟩ : ∃ v, k = v + 1 := ⟨k - 1, by omega⟩
      have ev : (((v + 1 : Nat) : Int) - 1) = (v : Int) := by omega
      rw [ev]
      have e62 : 63 - (v + 1) = 62 - v := by omega
      rw [e62] at HO
      have hbit := bit_of f v (by omega)
      have hsh := pow_wrap62 v (by omega)
      have hpb := pow_bd62 v (by omega)
      have HE : Aside0 (63 - v = 62 - v + 1) := ⟨by omega⟩
      obtain ⟨p, hp⟩ : ∃ p : Nat, p = 2 ^ v := ⟨_, rfl⟩
      rw [← hp] at hsh hpb
      have HP := Aside0.mk hp
      clear hp ev e62
      cases ht : f.testBit v with
      | true =>
        rw [ht, if_pos rfl] at hbit
        have HT := Aside0.mk ht
        clear ht
        by_cases hfp : f = p
        · have hfb : ((f : Int) != (p : Int)) = false := by simp; omega
          have HF := Aside0.mk hfp
          clear hfp
          go_wp2
          go_roundw
          case rel => exact ⟨v, by go_num, by omega, ⟨by rw [HE.out, blw_miss f v (by omega) (.inr (HF.out.trans HP.out))]; exact HO.out⟩, HB⟩
          case measure => simp [intOf]
        · have hfb : ((f : Int) != (p : Int)) = true := by simp; omega
          have HF := Aside0.mk hfp
          clear hfp
          go_wp2_with (first | (at_builtin; refine app_own (w0 := w) w.heap.size rfl (.tmp 23) (.tmp 29) rfl _ (blw f (62 - v)) ((f : Int) - p) rfl rfl HO.out HB.out HB.out.size ?hl ?_; (case hl => have := blw_len f (62 - v); omega); intro v1 w1 ho hb hg hat; have HO1 := Aside0.mk ho; have HB1 := Aside0.mk hb; clear ho hb hg hat))
          go_roundw
          case rel => exact ⟨v, by go_num, by omega, ⟨by rw [HE.out, blw_hit f v (by omega) HT.out (fun e => HF.out (e.trans HP.out.symm)), ← HP.out]; exact HO1.out⟩, HB1⟩
          case measure => simp [intOf]
      | false =>
        rw [ht, if_neg (by decide)] at hbit
        have HT := Aside0.mk ht
        clear ht
        go_wp2
        go_roundw
        case rel => exact ⟨v, by go_num, by omega, ⟨by rw [HE.out, blw_miss f v (by omega) (.inl HT.out)]; exact HO.out⟩, HB⟩
        case measure => simp [intOf]
    · obtain rfl : k = 0 := by omega
      go_wp2
      go_ret
      exact ⟨_, rfl, HO.out, HB.out⟩

/-- the i-th face is as it has to be -/
def upAt (n : Nat) (l : List Int) (i : Nat) : Bool := (decide (1 ≤ l.getD i 0) && decide (l.getD i 0 ≤ ((2 ^ n : Nat) : Int) - 1)) && !(decide (0 < i) && decide (l.getD i 0 ≤ l.getD (i - 1) 0))
def belowIn (l : List Int) (f : Int) : Bool := (below f.toNat).all fun g => decide (g ∈ l)
def cxUp (n : Nat) (l : List Int) : Bool := (List.range l.length).all (upAt n l)
/-- these make a complex -/
def cxOk (a : Int) (l : List Int) : Bool := (decide (1 ≤ a) && decide (a ≤ 6)) && (cxUp a.toNat l && l.all (belowIn l))

theorem cxUp_at {n : Nat} {l : List Int} {i : Nat} (h : cxUp n l = true) (hi : i < l.length) : upAt n l i = true := by
  unfold cxUp at h
  rw [List.all_eq_true] at h
  exact h i (List.mem_range.2 hi)
theorem cxUp_bd {n : Nat} {l : List Int} (h : cxUp n l = true) : ∀ x ∈ l, 1 ≤ x ∧ x ≤ ((2 ^ n : Nat) : Int) - 1 := by
  intro x hx
  obtain ⟨i, hi, rfl⟩ := List.getElem_of_mem hx
  have := cxUp_at h hi
  unfold upAt at this
  simp only [Bool.and_eq_true, decide_eq_true_eq] at this
  have e : l.getD i 0 = l[i] := by simp [List.getD_eq_getElem?_getD, hi]
  rw [e] at this
  exact this.1
theorem cxUp_asc {n : Nat} {l : List Int} (h : cxUp n l = true) : l.Pairwise (· < ·) := by
  have key : ∀ k i, i + k < l.length → 0 < k → l.getD i 0 < l.getD (i + k) 0 := by
    intro k
    induction k with
    | zero => intro i _ h0; omega
    | succ k ih =>
      intro i hi _
      have h1 := cxUp_at h (i := i + (k + 1)) hi
      unfold upAt at h1
      simp only [Bool.and_eq_true, Bool.not_eq_true', Bool.and_eq_false_iff, decide_eq_false_iff_not] at h1
      have h2 : l.getD (i + k) 0 < l.getD (i + (k + 1)) 0 := by
        rcases h1.2 with h3 | h3
        · omega
        · have e : i + (k + 1) - 1 = i + k := by omega
          rw [e] at h3; omega
      by_cases hk : k = 0
      · subst hk; exact h2
      · have := ih i (by omega) (by omega)
        omega
  rw [List.pairwise_iff_getElem]
  intro i j hi hj hij
  have := key (j - i) i (by omega) (by omega)
  have e : i + (j - i) = j := by omega
  rw [e] at this
  simpa [List.getD_eq_getElem?_getD, hi, hj] using this
theorem pw6 {n : Nat} (h : n ≤ 6) : 1 ≤ 2 ^ n ∧ 2 ^ n ≤ 64 := by
  rcases (by omega : n = 0 ∨ n = 1 ∨ n = 2 ∨ n = 3 ∨ n = 4 ∨ n = 5 ∨ n = 6) with rfl | rfl | rfl | rfl | rfl | rfl | rfl <;> decide
theorem asc_len {l : List Int} (h : l.Pairwise (· < ·)) {b : Nat} (hb : ∀ x ∈ l, 1 ≤ x ∧ x ≤ (b : Int)) : l.length ≤ b := by
  have key : ∀ i, i < l.length → (i : Int) + 1 ≤ l.getD i 0 := by
    intro i
    induction i with
    | zero => intro h0; have := (hb _ (mem_at h0 rfl)).1; simpa using this
    | succ i ih => intro hi; have h1 := ih (by omega); have h2 := asc_lt h (show i < i + 1 by omega) hi; push_cast; omega
  cases hl : l.length with
  | zero => omega
  | succ m =>
    have h1 := key m (by omega)
    have h2 := (hb _ (mem_at (i := m) (by omega) rfl)).2
    omega
theorem cxUp_len {n : Nat} (hn : n ≤ 6) {l : List Int} (h : cxUp n l = true) : l.length ≤ 63 := by
  have := pw6 hn
  have h1 := asc_len (cxUp_asc h) (b := 2 ^ n - 1) (fun x hx => by have := cxUp_bd h x hx; omega)
  omega
/-- what is known of a complex -/
structure Cx (n : Nat) (l : List Int) : Prop where
  lo : 1 ≤ n
  hi : n ≤ 6
  asc : l.Pairwise (· < ·)
  bd : ∀ x ∈ l, 1 ≤ x ∧ x ≤ ((2 ^ n : Nat) : Int) - 1
  len : l.length ≤ 63
theorem cxOk_cx {a : Int} {l : List Int} (h : cxOk a l = true) : ∃ n : Nat, a = n ∧ Cx n l ∧ l.all (belowIn l) = true := by
  unfold cxOk at h
  simp only [Bool.and_eq_true, decide_eq_true_eq] at h
  obtain ⟨⟨h1, h2⟩, h3, h4⟩ := h
  refine ⟨a.toNat, by omega, ⟨by omega, by omega, cxUp_asc h3, cxUp_bd h3, cxUp_len (by omega) h3⟩, h4⟩
theorem Cx.nat {n : Nat} {l : List Int} (h : Cx n l) {x : Int} (hx : x ∈ l) : ∃ f : Nat, x = f ∧ 1 ≤ f ∧ f ≤ 63 := by
  have := h.bd x hx
  have := pw6 h.hi
  exact ⟨x.toNat, by omega, by omega, by omega⟩

/-- has as a function value -/
theorem hasPred {w : World} {a : Int} {u : Value} {l : List Int} (hr : ReadI w u l) (hs : l.Pairwise (· < ·)) (hl : l.length ≤ 1000) :
    PredI w (.func (.func 119) #[cx a u] #[]) (fun f => decide (f ∈ l)) (fun _ => True) :=
  ⟨_, _, _, rfl, Enters.mk' Try.func119 rfl rfl, fun w1 x hb _ => has a u l x w1 (hr.below hb) hs hl⟩

set_option maxHeartbeats 1000000 in
theorem isComplex1 (w : World) (b : Nat) (a : Int) (u : Value) (l : List Int) (hr : ReadI w u l) (hs : l.Pairwise (· < ·)) (hl : l.length ≤ 1000) (h0 : w.cell? ⟨b, 0, none⟩ = some (.int .i64 a)) (h1 : w.cell? ⟨b, 1, none⟩ = some u) :
    PredI w (.func (.func 118) #[] #[.pointer (some ⟨b, 0, none⟩)]) (belowIn l) (fun f => 1 ≤ f ∧ f ≤ 63) := by
  refine ⟨_, _, _, rfl, Enters.mk' Try.func118 rfl rfl, fun w1 x hb hx => ?_⟩
  obtain ⟨f, rfl⟩ : ∃ f : Nat, x = f := ⟨x.toNat, by omega⟩
  have hf : f ≤ 63 := by omega
  have hc0 : w1.cell? ⟨b, 0, none⟩ = some (.int .i64 a) := pw_cell_below hb h0
  have hc1 : w1.cell? ⟨b, 1, none⟩ = some u := pw_cell_below hb h1
  have HR := Aside0.mk (hr.below hb)
  have HS := Aside0.mk hs
  clear hb h0 h1 hs hx
  show Calls _ _ #[_, _] _ _
  go_enter Try.func118, Try.ntmps118
  go_wp2
  have hmx : Try.prog.follows .mixedOrders = true := by kernel_rfl
  have hD : Below w1.heap.size w1 w1.drew := (Below.refl _ _).drew
  go_region_with (first | (go_at_call 107; refine (borders f hf _).mono ?_; rintro e w3 ⟨v, rfl, ho, hb⟩; have hc0' := pw_cell_below hb (show w1.drew.cell? _ = _ from hc0); have hc1' := pw_cell_below hb (show w1.drew.cell? _ = _ from hc1); obtain ⟨A3, c3, rfl, -⟩ := ho.read; have HO := Aside0.mk ho; clear ho) | (go_at_call 117; refine (areAll _ _ _ (fun g => decide (g ∈ l)) (fun _ => True) _ HO.out.read (hasPred (HR.out.below ?hx) HS.out hl) (fun _ _ => trivial)).mono ?_; (case hx => (repeat (first | (with_reducible exact Below.refl _ _) | (with_reducible assumption) | (with_reducible refine below_step ?_ (by assumption)) | (with_reducible apply below_alloc) | (with_reducible apply below_drewN)))); rintro e w4 ⟨rfl, hb4⟩))
  all_goals go_wp2
  all_goals go_ret
  all_goals exact ⟨rfl, by (repeat (first | (with_reducible exact Below.refl _ _) | (with_reducible assumption) | (with_reducible refine below_step ?_ (by assumption)) | (with_reducible apply below_alloc) | (with_reducible apply below_drewN)))⟩

theorem up_false {n : Nat} {l : List Int} {i : Nat} (hi : i < l.length) (h : upAt n l i = false) : cxUp n l = false := by
  unfold cxUp
  rw [List.all_eq_false]
  exact ⟨i, List.mem_range.2 hi, by rw [h]; decide⟩
theorem up_true {n : Nat} {l : List Int} (h : ∀ i, i < l.length → upAt n l i = true) : cxUp n l = true := by
  unfold cxUp
  rw [List.all_eq_true]
  exact fun i hi => h i (List.mem_range.1 hi)

set_option maxHeartbeats 2000000 in
theorem isComplex (a : Int) (u : Value) (l : List Int) (w : World) (hr : ReadI w u l) :
    Calls Try.prog 64 #[cx a u] w fun e w' => e = .returned (.bool (cxOk a l)) ∧ Below w.heap.size w w' := by
  have hba : Below w.heap.size w (w.alloc (.cells #[.int .i64 a, u] 28)) := Below.alloc (Below.refl _ _) (Nat.le_refl _) _
  have HB := Aside0.mk hba
  have HR0 := Aside0.mk (hr.below hba)
  obtain ⟨A, c, rfl, hc, hr⟩ := id hr
  have HR := Aside0.mk (Kd.C_below hr hba)
  have hlen : l.length ≤ 9223372036854775807 := hr.2.1
  clear hr hba
  obtain ⟨w1, hw1⟩ : ∃ w1, w1 = w.alloc (Obj.cells #[.int .i64 a, Value.slice A l.length c] 28) := ⟨_, rfl⟩
  have hc0 : w1.cell? ⟨w.heap.size, 0, none⟩ = some (.int .i64 a) := by rw [hw1]; simp
  have hc1 : w1.cell? ⟨w.heap.size, 1, none⟩ = some (Value.slice A l.length c) := by rw [hw1]; simp
  rw [← hw1] at HB HR HR0
  by_cases ha : 1 ≤ a ∧ a ≤ 6
  · obtain ⟨n, rfl⟩ : ∃ n : Nat, a = n := ⟨a.toNat, by omega⟩
    have hs : (decide ((1 : Int) ≤ n) && decide ((n : Int) ≤ 6)) = true := by simp; omega
    have hn : 1 ≤ n ∧ n ≤ 6 := by omega
    have HA : Aside0 (cxOk n l = (cxUp n l && l.all (belowIn l))) := ⟨by unfold cxOk; rw [hs]; rfl⟩
    obtain ⟨N, hN⟩ : ∃ N : Nat, N = 2 ^ n := ⟨_, rfl⟩
    have HN := Aside0.mk hN
    clear hN ha
    go_enter Try.func64, Try.ntmps64
    go_wp2_with (first | (rw [← hw1]; clear hw1; go_at_call 114; refine (isSize _ _).mono ?_; rintro e w2 ⟨rfl, hb⟩; rw [hs]; have hc0 := pw_cell_below hb hc0; have hc1 := pw_cell_below hb hc1; have HB2 := Aside0.mk hb; clear hb))
    go_loopw [12] (fun v wr => ∃ i : Nat, v = .int .i64 i ∧ i ≤ l.length ∧ Aside0 (∀ k, k < i → upAt n l k = true) ∧ Below w2.heap.size w2 wr) (fun v _ => l.length - (intOf v).toNat)
    case atStart => exact ⟨0, rfl, Nat.zero_le _, ⟨fun j hj => absurd hj (Nat.not_lt_zero _)⟩, Below.refl _ _⟩
    case round =>
      obtain ⟨i, rfl, hi, HU, hb⟩ := hrel
      have hc0r := pw_cell_below hb hc0
      have hc1r := pw_cell_below hb hc1
      have HBr := Aside0.mk (HB2.out.trans (hb.mono HB2.out.size))
      have HB3 := Aside0.mk hb
      clear hb
      by_cases hlt : i < l.length
      · obtain ⟨ad, y, rfl, hcell, HY⟩ := ReadI.get (Kd.C_below HR.out HBr.out) hlt
        cases hwi : (decide ((1 : Int) ≤ y) && decide (y ≤ (N : Int) - 1)) with
        | false =>
          go_wp2_with (first | (go_at_call 116; refine (full n hn.2 _ _).mono ?_; rintro e w3 ⟨rfl, hb3⟩; rw [← HN.out]) | (go_at_call 115; refine (within _ _ _ _).mono ?_; rintro e w4 ⟨rfl, hb4⟩; rw [hwi]))
          go_ret
          exact ⟨by rw [HA.out, up_false hlt (by unfold upAt; rw [HY.out, ← HN.out, hwi]; rfl)]; rfl, by have := HB.out; have := HBr.out; (repeat (first | (with_reducible exact Below.refl _ _) | (with_reducible assumption) | (with_reducible refine below_step ?_ (by assumption)) | (with_reducible apply below_alloc) | (with_reducible apply below_drewN)))⟩
        | true =>
          by_cases h0 : i = 0
          · have h0' : ¬ (0 : Int) < (i : Int) := by omega
            clear h0
            go_wp2_with (first | (go_at_call 116; refine (full n hn.2 _ _).mono ?_; rintro e w3 ⟨rfl, hb3⟩; rw [← HN.out]) | (go_at_call 115; refine (within _ _ _ _).mono ?_; rintro e w4 ⟨rfl, hb4⟩; rw [hwi]))
            go_roundw
            case rel =>
              refine ⟨i + 1, by go_num, by omega, ⟨fun k hk => ?_⟩, by have := HB3.out; (repeat (first | (with_reducible exact Below.refl _ _) | (with_reducible assumption) | (with_reducible refine below_step ?_ (by assumption)) | (with_reducible apply below_alloc) | (with_reducible apply below_drewN)))⟩
              rcases Nat.lt_succ_iff_lt_or_eq.1 hk with h | rfl
              · exact HU.out k h
              · unfold upAt; rw [HY.out, ← HN.out, hwi, decide_eq_false (by omega)]; rfl
            case measure => simp [intOf]; omega
          · have h0' : (0 : Int) < (i : Int) := by omega
            obtain ⟨ad', y', e2, hcell2, HY2⟩ := ReadI.get (Kd.C_below HR.out HBr.out) (i := i - 1) (by omega)
            cases e2
            by_cases hle : y ≤ y'
            · have HLE := Aside0.mk (decide_eq_true hle)
              go_wp2_with (first | (go_at_call 116; refine (full n hn.2 _ _).mono ?_; rintro e w3 ⟨rfl, hb3⟩; rw [← HN.out]; have hcell2 := pw_cell_below hb3 hcell2; have hc1r := pw_cell_below hb3 hc1r) | (go_at_call 115; refine (within _ _ _ _).mono ?_; rintro e w4 ⟨rfl, hb4⟩; rw [hwi]; have hcell2 := pw_cell_below hb4 hcell2; have hc1r := pw_cell_below hb4 hc1r))
              go_ret
              exact ⟨by rw [HA.out, up_false hlt (by unfold upAt; rw [HY.out, HY2.out, ← HN.out, hwi, HLE.out, decide_eq_true (by omega)]; rfl)]; rfl, by have := HB.out; have := HBr.out; (repeat (first | (with_reducible exact Below.refl _ _) | (with_reducible assumption) | (with_reducible refine below_step ?_ (by assumption)) | (with_reducible apply below_alloc) | (with_reducible apply below_drewN)))⟩
            · have HLE := Aside0.mk (decide_eq_false hle)
              go_wp2_with (first | (go_at_call 116; refine (full n hn.2 _ _).mono ?_; rintro e w3 ⟨rfl, hb3⟩; rw [← HN.out]; have hcell2 := pw_cell_below hb3 hcell2; have hc1r := pw_cell_below hb3 hc1r) | (go_at_call 115; refine (within _ _ _ _).mono ?_; rintro e w4 ⟨rfl, hb4⟩; rw [hwi]; have hcell2 := pw_cell_below hb4 hcell2; have hc1r := pw_cell_below hb4 hc1r))
              go_roundw
              case rel =>
                refine ⟨i + 1, by go_num, by omega, ⟨fun k hk => ?_⟩, by have := HB3.out; (repeat (first | (with_reducible exact Below.refl _ _) | (with_reducible assumption) | (with_reducible refine below_step ?_ (by assumption)) | (with_reducible apply below_alloc) | (with_reducible apply below_drewN)))⟩
                rcases Nat.lt_succ_iff_lt_or_eq.1 hk with h | rfl
                · exact HU.out k h
                · unfold upAt; rw [HY.out, HY2.out, ← HN.out, hwi, HLE.out, Bool.and_false]; rfl
              case measure => simp [intOf]; omega
      · have hu : cxUp n l = true := up_true (fun k hk => HU.out k (by omega))
        have HP := Aside0.mk (isComplex1 wr w.heap.size n (.slice A l.length c) l (HR0.out.below HBr.out) (cxUp_asc hu) (by have := cxUp_len hn.2 hu; omega) hc0r hc1r)
        have HBD : Aside0 (∀ x ∈ l, 1 ≤ x ∧ x ≤ 63) := ⟨fun x hx => by have := cxUp_bd hu x hx; have := pw6 hn.2; omega⟩
        have HUU := Aside0.mk hu
        clear hu
        go_wp2_with (first | (go_at_call 117; refine (areAll _ _ _ (belowIn l) _ _ (HR0.out.below HBr.out) HP.out HBD.out).mono ?_; rintro e w' ⟨rfl, hb3⟩))
        go_ret
        exact ⟨by rw [HA.out, HUU.out]; rfl, by have := HB.out; have := HBr.out; (repeat (first | (with_reducible exact Below.refl _ _) | (with_reducible assumption) | (with_reducible refine below_step ?_ (by assumption)) | (with_reducible apply below_alloc) | (with_reducible apply below_drewN)))⟩
  · have hs : (decide ((1 : Int) ≤ a) && decide (a ≤ 6)) = false := by simp; omega
    have HA : Aside0 (cxOk a l = false) := ⟨by unfold cxOk; rw [hs]; rfl⟩
    clear ha
    go_enter Try.func64, Try.ntmps64
    go_wp2_with (first | (rw [← hw1]; clear hw1; go_at_call 114; refine (isSize _ _).mono ?_; rintro e w2 ⟨rfl, hb⟩; rw [hs]))
    go_ret
    exact ⟨by rw [HA.out]; rfl, by have := HB.out; (repeat (first | (with_reducible exact Below.refl _ _) | (with_reducible assumption) | (with_reducible refine below_step ?_ (by assumption)) | (with_reducible apply below_alloc) | (with_reducible apply below_drewN)))⟩
end Go.Proofs.Ytcbkchnfjeegmaa.H

namespace Go.Proofs.Ytcbkchnfjeegmaa.H
open Go.RowKit Go.Proofs.YtcbkchnfjeegmaaW.PrintWords Go.Proofs.YtcbkchnfjeegmaaW.PrintLast Go.Proofs.YtcbkchnfjeegmaaW.PrintMore
set_option linter.unusedVariables false
set_option linter.unusedSimpArgs false

theorem all_false {l : List Int} {p : Int → Bool} {i : Nat} {y : Int} (hi : i < l.length) (hy : l.getD i 0 = y) (h : p y = false) : l.all p = false := by
  rw [List.all_eq_false]
  exact ⟨y, mem_at hi hy, by rw [h]; decide⟩
theorem all_true {l : List Int} {p : Int → Bool} (h : ∀ i, i < l.length → p (l.getD i 0) = true) : l.all p = true := by
  rw [List.all_eq_true]
  intro x hx
  obtain ⟨j, hj, rfl⟩ := List.getElem_of_mem hx
  have := h j hj
  simpa [List.getD_eq_getElem?_getD, hj] using this

set_option maxHeartbeats 4000000 in
theorem specIs (a : Int) (u : Value) (l : List Int) (w : World) (hr : ReadI w u l) :
    Calls Try.prog 56 #[cx a u] w fun e w' => e = .returned (.bool (cxOk a l)) ∧ Below w.heap.size w w' := by
  have hba : Below w.heap.size w (w.alloc (.cells #[.int .i64 a, u] 28)) := Below.alloc (Below.refl _ _) (Nat.le_refl _) _
  have HB := Aside0.mk hba
  have HR0 := Aside0.mk (hr.below hba)
  obtain ⟨A, c, rfl, hc, hr⟩ := id hr
  have HR := Aside0.mk (Kd.C_below hr hba)
  have hlen : l.length ≤ 9223372036854775807 := hr.2.1
  clear hr hba
  obtain ⟨w1, hw1⟩ : ∃ w1, w1 = w.alloc (Obj.cells #[.int .i64 a, Value.slice A l.length c] 28) := ⟨_, rfl⟩
  have hc0 : w1.cell? ⟨w.heap.size, 0, none⟩ = some (.int .i64 a) := by rw [hw1]; simp
  have hc1 : w1.cell? ⟨w.heap.size, 1, none⟩ = some (Value.slice A l.length c) := by rw [hw1]; simp
  rw [← hw1] at HB HR HR0
  by_cases ha : 1 ≤ a ∧ a ≤ 6
  · obtain ⟨n, rfl⟩ : ∃ n : Nat, a = n := ⟨a.toNat, by omega⟩
    have hs : (decide ((1 : Int) ≤ n) && decide ((n : Int) ≤ 6)) = true := by simp; omega
    have hn : 1 ≤ n ∧ n ≤ 6 := by omega
    have HA : Aside0 (cxOk n l = (cxUp n l && l.all (belowIn l))) := ⟨by unfold cxOk; rw [hs]; rfl⟩
    obtain ⟨N, hN⟩ : ∃ N : Nat, N = 2 ^ n := ⟨_, rfl⟩
    have HN := Aside0.mk hN
    clear hN ha
    go_enter Try.func56, Try.ntmps56
    go_wp2_with (first | (rw [← hw1]; clear hw1; go_at_call 108; refine (specIn _ _ _ _).mono ?_; rintro e w2 ⟨rfl, hb⟩; rw [hs]; have hc0 := pw_cell_below hb hc0; have hc1 := pw_cell_below hb hc1; have HB2 := Aside0.mk hb; clear hb))
    go_loopw [3] (fun v wr => ∃ i : Nat, v = .int .i64 i ∧ i ≤ l.length ∧ Aside0 (∀ k, k < i → upAt n l k = true) ∧ Below w2.heap.size w2 wr) (fun v _ => l.length - (intOf v).toNat)
    case atStart => exact ⟨0, rfl, Nat.zero_le _, ⟨fun j hj => absurd hj (Nat.not_lt_zero _)⟩, Below.refl _ _⟩
    case round =>
      obtain ⟨i, rfl, hi, HU, hb⟩ := hrel
      have hc0r := pw_cell_below hb hc0
      have hc1r := pw_cell_below hb hc1
      have HBr := Aside0.mk (HB2.out.trans (hb.mono HB2.out.size))
      have HB3 := Aside0.mk hb
      clear hb hc0 hc1
      by_cases hlt : i < l.length
      · obtain ⟨ad, y, rfl, hcell, HY⟩ := ReadI.get (Kd.C_below HR.out HBr.out) hlt
        have hx0 : ∀ x : Ext wr, x.1.cell? ⟨w.heap.size, 0, none⟩ = some (.int .i64 n) := fun x => Ext.cell hc0r x
        have hx1 : ∀ x : Ext wr, x.1.cell? ⟨w.heap.size, 1, none⟩ = some (Value.slice (some ad) l.length c) := fun x => Ext.cell hc1r x
        have hx2 : ∀ x : Ext wr, x.1.cell? (ad.add i) = some (.int .i64 y) := fun x => Ext.cell hcell x
        clear hcell
        have HSA : Aside0 (∀ w : World, Calls Try.prog 109 #[.int .i64 n] w fun e w' => e = .returned (.int .i64 ((N : Int) - 1)) ∧ Below w.heap.size w w') := ⟨fun w => by rw [HN.out]; exact specAll n hn.2 w⟩
        cases hwi : (decide ((1 : Int) ≤ y) && decide (y ≤ (N : Int) - 1)) with
        | false =>
          have HSI : Aside0 (∀ w : World, Calls Try.prog 108 #[.int .i64 y, .int .i64 1, .int .i64 ((N : Int) - 1)] w fun e w' => e = .returned (.bool false) ∧ Below w.heap.size w w') := ⟨fun w => by rw [← hwi]; exact specIn _ _ _ w⟩
          have HWI := Aside0.mk hwi
          clear hwi
          go_wp2
          refine wp_region_ext (by kernel_rfl) (by kernel_rfl) ?_
          repeat (go_big_quiet_step ((first | (go_at_call 109; exact Calls.ext_of (HSA.out _)) | (go_at_call 108; exact Calls.ext_of (HSI.out _)))))
          refine wpQuiet_nil ?_
          rintro _ ⟨x, rfl⟩
          have hbx := x.2
          go_wp2
          go_ret
          exact ⟨by rw [HA.out, up_false hlt (by unfold upAt; rw [HY.out, ← HN.out, HWI.out]; rfl)]; rfl, by have := HB.out; have := HBr.out; (repeat (first | (with_reducible exact Below.refl _ _) | (with_reducible assumption) | (with_reducible refine below_step ?_ (by assumption)) | (with_reducible apply below_alloc) | (with_reducible apply below_drewN)))⟩
        | true =>
          have HSI : Aside0 (∀ w : World, Calls Try.prog 108 #[.int .i64 y, .int .i64 1, .int .i64 ((N : Int) - 1)] w fun e w' => e = .returned (.bool true) ∧ Below w.heap.size w w') := ⟨fun w => by rw [← hwi]; exact specIn _ _ _ w⟩
          have HWI := Aside0.mk hwi
          clear hwi
          by_cases h0 : i = 0
          · have h0' : decide (0 < i) = false := decide_eq_false (by omega)
            clear h0
            have h0'' : ¬ 0 < i := by simpa using h0'
            have H0 := Aside0.mk h0''
            clear h0''
            go_wp2
            refine wp_region_ext (by kernel_rfl) (by kernel_rfl) ?_
            repeat (go_big_quiet_step ((first | (go_at_call 109; exact Calls.ext_of (HSA.out _)) | (go_at_call 108; exact Calls.ext_of (HSI.out _)))))
            refine wpQuiet_nil ?_
            rintro _ ⟨x, rfl⟩
            have hbx := x.2
            go_wp2
            go_roundw
            case rel =>
              refine ⟨i + 1, by go_num, by omega, ⟨fun k hk => ?_⟩, by have := HB3.out; (repeat (first | (with_reducible exact Below.refl _ _) | (with_reducible assumption) | (with_reducible refine below_step ?_ (by assumption)) | (with_reducible apply below_alloc) | (with_reducible apply below_drewN)))⟩
              rcases Nat.lt_succ_iff_lt_or_eq.1 hk with h | rfl
              · exact HU.out k h
              · unfold upAt; rw [HY.out, ← HN.out, HWI.out, decide_eq_false H0.out]; rfl
            case measure => simp [intOf]; omega
          · have h0' : decide (0 < i) = true := decide_eq_true (by omega)
            have h1i : (0 : Int) ≤ (i : Int) - 1 := by omega
            have h2i : (i : Int) - 1 < l.length := by omega
            have h3i : ((i : Int) - 1).toNat = i - 1 := by omega
            obtain ⟨ad', y', e2, hcell2, HY2⟩ := ReadI.get (Kd.C_below HR.out HBr.out) (i := i - 1) (by omega)
            cases e2
            have hx3 : ∀ x : Ext wr, x.1.cell? (ad.add (i - 1)) = some (.int .i64 y') := fun x => Ext.cell hcell2 x
            clear hcell2
            by_cases hle : y ≤ y'
            · have HLE := Aside0.mk (decide_eq_true hle)
              go_wp2
              refine wp_region_ext (by kernel_rfl) (by kernel_rfl) ?_
              repeat (go_big_quiet_step ((first | (go_at_call 109; exact Calls.ext_of (HSA.out _)) | (go_at_call 108; exact Calls.ext_of (HSI.out _)))))
              refine wpQuiet_nil ?_
              rintro _ ⟨x, rfl⟩
              have hbx := x.2
              go_wp2
              go_ret
              exact ⟨by rw [HA.out, up_false hlt (by unfold upAt; rw [HY.out, HY2.out, ← HN.out, HWI.out, HLE.out, decide_eq_true (by omega)]; rfl)]; rfl, by have := HB.out; have := HBr.out; (repeat (first | (with_reducible exact Below.refl _ _) | (with_reducible assumption) | (with_reducible refine below_step ?_ (by assumption)) | (with_reducible apply below_alloc) | (with_reducible apply below_drewN)))⟩
            · have HLE := Aside0.mk (decide_eq_false hle)
              go_wp2
              refine wp_region_ext (by kernel_rfl) (by kernel_rfl) ?_
              repeat (go_big_quiet_step ((first | (go_at_call 109; exact Calls.ext_of (HSA.out _)) | (go_at_call 108; exact Calls.ext_of (HSI.out _)))))
              refine wpQuiet_nil ?_
              rintro _ ⟨x, rfl⟩
              have hbx := x.2
              go_wp2
              go_roundw
              case rel =>
                refine ⟨i + 1, by go_num, by omega, ⟨fun k hk => ?_⟩, by have := HB3.out; (repeat (first | (with_reducible exact Below.refl _ _) | (with_reducible assumption) | (with_reducible refine below_step ?_ (by assumption)) | (with_reducible apply below_alloc) | (with_reducible apply below_drewN)))⟩
                rcases Nat.lt_succ_iff_lt_or_eq.1 hk with h | rfl
                · exact HU.out k h
                · unfold upAt; rw [HY.out, HY2.out, ← HN.out, HWI.out, HLE.out, Bool.and_false]; rfl
              case measure => simp [intOf]; omega
      · have hu : cxUp n l = true := up_true (fun k hk => HU.out k (by omega))
        have HUU := Aside0.mk hu
        have HBD : Aside0 (∀ x ∈ l, 1 ≤ x ∧ x ≤ 63) := ⟨fun x hx => by have := cxUp_bd hu x hx; have := pw6 hn.2; omega⟩
        clear hu
        go_wp2
        go_loopw [4] (fun v wr2 => ∃ i : Nat, v = .int .i64 i ∧ i ≤ l.length ∧ Aside0 (∀ k, k < i → belowIn l (l.getD k 0) = true) ∧ Below wr.heap.size wr wr2) (fun v _ => l.length - (intOf v).toNat)
        case atStart => exact ⟨0, rfl, Nat.zero_le _, ⟨fun j hj => absurd hj (Nat.not_lt_zero _)⟩, Below.refl _ _⟩
        case round =>
          obtain ⟨i2, rfl, hi2, HI2, hb2⟩ := hrel
          have hc1s := pw_cell_below hb2 hc1r
          have hc0s := pw_cell_below hb2 hc0r
          have HBs := Aside0.mk (HBr.out.trans (hb2.mono HBr.out.size))
          have HBt := Aside0.mk hb2
          clear hb2
          by_cases hlt2 : i2 < l.length
          · obtain ⟨ad, y, rfl, hcell, HY⟩ := ReadI.get (Kd.C_below HR.out HBs.out) hlt2
            have hyb := HBD.out y (mem_at hlt2 HY.out)
            obtain ⟨f, rfl⟩ : ∃ f : Nat, y = f := ⟨y.toNat, by omega⟩
            have hf : f ≤ 63 := by omega
            clear hyb
            go_wp2_with (first | (go_at_call 103; refine (specBelow f hf _).mono ?_; rintro e w3 ⟨v3, rfl, ho, hb⟩; obtain ⟨A3, c3, rfl, hc3, hr3⟩ := ho.read; have hc1u := pw_cell_below hb hc1s; have hc0u := pw_cell_below hb hc0s; have HR3 := Aside0.mk hr3; have HB3a := Aside0.mk hb; have hl3 : (below f).length ≤ 9223372036854775807 := hr3.2.1; clear ho hb hr3))
            go_loopw [6] (fun v wr3 => ∃ j : Nat, v = .int .i64 j ∧ j ≤ (below f).length ∧ Aside0 (∀ k, k < j → decide ((below f).getD k 0 ∈ l) = true) ∧ Below w3.heap.size w3 wr3) (fun v _ => (below f).length - (intOf v).toNat)
            case atStart => exact ⟨0, rfl, Nat.zero_le _, ⟨fun j hj => absurd hj (Nat.not_lt_zero _)⟩, Below.refl _ _⟩
            case round =>
              obtain ⟨j, rfl, hj, HJ, hb5⟩ := hrel
              have hc1v := pw_cell_below hb5 hc1u
              have hc0v := pw_cell_below hb5 hc0u
              have HBv := Aside0.mk (HB3a.out.trans (hb5.mono HB3a.out.size))
              have HBx := Aside0.mk (HBs.out.trans (HBv.out.mono HBs.out.size))
              have HBy := Aside0.mk hb5
              by_cases hlt3 : j < (below f).length
              · obtain ⟨ad3, g, rfl, hcell3, HG⟩ := ReadI.get (Kd.C_below HR3.out hb5) hlt3
                clear hb5 hcell
                have hx0 : ∀ x : Ext wr, x.1.cell? ⟨w.heap.size, 0, none⟩ = some (.int .i64 n) := fun x => Ext.cell hc0v x
                have hx1 : ∀ x : Ext wr, x.1.cell? ⟨w.heap.size, 1, none⟩ = some (Value.slice (some ad) l.length c) := fun x => Ext.cell hc1v x
                have hx2 : ∀ x : Ext wr, x.1.cell? (ad3.add j) = some (.int .i64 g) := fun x => Ext.cell hcell3 x
                clear hcell3
                have hj1 : (0 : Int) ≤ (j : Int) := by omega
                have hj2 : (j : Int) < ((below f).length : Int) := by omega
                cases hg : decide (g ∈ l) with
                | false =>
                  have HSH : Aside0 (∀ x : Ext wr, Calls Try.prog 100 #[cx n (.slice (some ad) l.length c), .int .i64 g] x.1 fun e w' => e = .returned (.bool false) ∧ Below x.1.heap.size x.1 w') := ⟨fun x => by rw [← hg]; exact specHas n _ l g x.1 (HR0.out.below (HBx.out.trans (x.2.mono HBx.out.size)))⟩
                  have HGG := Aside0.mk hg
                  clear hg
                  go_wp2
                  refine wp_region_ext (by kernel_rfl) (by kernel_rfl) ?_
                  repeat (go_big_quiet_step ((first | (go_at_call 100; exact Calls.ext_of (HSH.out _)))))
                  refine wpQuiet_nil ?_
                  rintro _ ⟨x, rfl⟩
                  have hbx := x.2
                  go_wp2
                  go_ret
                  refine ⟨?_, by have := HB.out; have := HBx.out; (repeat (first | (with_reducible exact Below.refl _ _) | (with_reducible assumption) | (with_reducible refine below_step ?_ (by assumption)) | (with_reducible apply below_alloc) | (with_reducible apply below_drewN)))⟩
                  have e1 : belowIn l (f : Int) = false := all_false hlt3 HG.out HGG.out
                  rw [HA.out, HUU.out, all_false hlt2 HY.out e1]; rfl
                | true =>
                  have HSH : Aside0 (∀ x : Ext wr, Calls Try.prog 100 #[cx n (.slice (some ad) l.length c), .int .i64 g] x.1 fun e w' => e = .returned (.bool true) ∧ Below x.1.heap.size x.1 w') := ⟨fun x => by rw [← hg]; exact specHas n _ l g x.1 (HR0.out.below (HBx.out.trans (x.2.mono HBx.out.size)))⟩
                  have HGG := Aside0.mk hg
                  clear hg
                  go_wp2
                  refine wp_region_ext (by kernel_rfl) (by kernel_rfl) ?_
                  repeat (go_big_quiet_step ((first | (go_at_call 100; exact Calls.ext_of (HSH.out _)))))
                  refine wpQuiet_nil ?_
                  rintro _ ⟨x, rfl⟩
                  have hbx := x.2
                  go_wp2
                  go_roundw
                  case rel =>
                    refine ⟨j + 1, by go_num, by omega, ⟨fun k hk => ?_⟩, by have := HBy.out; (repeat (first | (with_reducible exact Below.refl _ _) | (with_reducible assumption) | (with_reducible refine below_step ?_ (by assumption)) | (with_reducible apply below_alloc) | (with_reducible apply below_drewN)))⟩
                    rcases Nat.lt_succ_iff_lt_or_eq.1 hk with h | rfl
                    · exact HJ.out k h
                    · rw [HG.out]; exact HGG.out
                  case measure => simp [intOf]; omega
              · clear hb5 hcell
                have HE : Aside0 (belowIn l (f : Int) = true) := ⟨all_true (l := below f) (fun k hk => HJ.out k (by omega))⟩
                go_wp2
                go_roundw
                case rel =>
                  refine ⟨i2 + 1, by go_num, by omega, ⟨fun k hk => ?_⟩, by have := HBt.out; have := HBv.out; (repeat (first | (with_reducible exact Below.refl _ _) | (with_reducible assumption) | (with_reducible refine below_step ?_ (by assumption)) | (with_reducible apply below_alloc) | (with_reducible apply below_drewN)))⟩
                  rcases Nat.lt_succ_iff_lt_or_eq.1 hk with h | rfl
                  · exact HI2.out k h
                  · rw [HY.out]; exact HE.out
                case measure => simp [intOf]; omega
          · have HE : Aside0 (l.all (belowIn l) = true) := ⟨all_true (fun k hk => HI2.out k (by omega))⟩
            go_wp2
            go_ret
            exact ⟨by rw [HA.out, HUU.out, HE.out]; rfl, by have := HB.out; have := HBs.out; (repeat (first | (with_reducible exact Below.refl _ _) | (with_reducible assumption) | (with_reducible refine below_step ?_ (by assumption)) | (with_reducible apply below_alloc) | (with_reducible apply below_drewN)))⟩
  · have hs : (decide ((1 : Int) ≤ a) && decide (a ≤ 6)) = false := by simp; omega
    have HA : Aside0 (cxOk a l = false) := ⟨by unfold cxOk; rw [hs]; rfl⟩
    clear ha
    go_enter Try.func56, Try.ntmps56
    go_wp2_with (first | (rw [← hw1]; clear hw1; go_at_call 108; refine (specIn _ _ _ _).mono ?_; rintro e w2 ⟨rfl, hb⟩; rw [hs]))
    go_ret
    exact ⟨by rw [HA.out]; rfl, by have := HB.out; (repeat (first | (with_reducible exact Below.refl _ _) | (with_reducible assumption) | (with_reducible refine below_step ?_ (by assumption)) | (with_reducible apply below_alloc) | (with_reducible apply below_drewN)))⟩
end Go.Proofs.Ytcbkchnfjeegmaa.H

namespace Go.Proofs.Ytcbkchnfjeegmaa.H
open Go.RowKit Go.Proofs.YtcbkchnfjeegmaaW.PrintWords Go.Proofs.YtcbkchnfjeegmaaW.PrintLast Go.Proofs.YtcbkchnfjeegmaaW.PrintMore
set_option linter.unusedVariables false
set_option linter.unusedSimpArgs false

def inMap (m : Nat) (v : Int) : Bool := decide (0 ≤ v) && decide (v ≤ (m : Int) - 1)
/-- a map of n vertices to m -/
def mapOk (n m : Nat) (f : List Int) : Bool := decide (f.length = n) && f.all (inMap m)

set_option maxHeartbeats 1000000 in
theorem isMap1 (w : World) (b : Nat) (m : Nat) (hm : m ≤ 6) (hc : w.cell? ⟨b, 0, none⟩ = some (.int .i64 m)) :
    PredI w (.func (.func 209) #[] #[.pointer (some ⟨b, 0, none⟩)]) (inMap m) (fun _ => True) := by
  refine ⟨_, _, _, rfl, Enters.mk' Try.func209 rfl rfl, fun w1 x hb hx => ?_⟩
  have hcell : w1.cell? ⟨b, 0, none⟩ = some (.int .i64 m) := pw_cell_below hb hc
  clear hb hc
  show Calls _ _ #[_, _] _ _
  go_enter Try.func209, Try.ntmps209
  go_wp2_with (first | (go_at_call 115; refine (within _ _ _ _).mono ?_; rintro e w' ⟨rfl, hb⟩))
  go_ret
  exact ⟨rfl, by (repeat (first | (with_reducible exact Below.refl _ _) | (with_reducible assumption) | (with_reducible refine below_step ?_ (by assumption)) | (with_reducible apply below_alloc) | (with_reducible apply below_drewN)))⟩

set_option maxHeartbeats 1000000 in
theorem isMap (n m : Nat) (hn : n ≤ 6) (hm : m ≤ 6) (ku lu v : Value) (f : List Int) (w : World) (hr : ReadI w v f) :
    Calls Try.prog 183 #[cx n ku, cx m lu, v] w fun e w' => e = .returned (.bool (mapOk n m f)) ∧ Below w.heap.size w w' := by
  obtain ⟨w1, hw1⟩ : ∃ w1, w1 = (w.alloc (.cells #[.int .i64 n, ku] 28)).alloc (.cells #[.int .i64 m, lu] 28) := ⟨_, rfl⟩
  have hB : Below w.heap.size w w1 := by rw [hw1]; exact ((Below.refl _ w).alloc (Nat.le_refl _) _).alloc (by simp) _
  have hc0 : w1.cell? ⟨w.heap.size, 0, none⟩ = some (.int .i64 n) := by rw [hw1]; simp
  have hc1 : w1.cell? ⟨w.heap.size + 1, 0, none⟩ = some (.int .i64 m) := by rw [hw1]; simp
  have HV := Aside0.mk (hr.below hB)
  have HP := Aside0.mk (isMap1 w1 (w.heap.size + 1) m hm hc1)
  have HB := Aside0.mk hB
  obtain ⟨A, c, rfl, -⟩ := id hr
  clear hr hB
  have hx0 : ∀ x : Ext w1, x.1.cell? ⟨w.heap.size, 0, none⟩ = some (.int .i64 n) := fun x => Ext.cell hc0 x
  clear hc0 hc1
  cases hl : decide (f.length = n) with
  | false =>
    have hl1 : ((f.length : Int) == (n : Int)) = false := by simp at hl ⊢; omega
    have HL := Aside0.mk hl
    clear hl
    go_enter Try.func183, Try.ntmps183
    go_wp2
    rw [← hw1]
    clear hw1
    refine wp_region_ext (by kernel_rfl) (by kernel_rfl) ?_
    repeat (go_big_quiet_step ((first | (go_at_call 132; exact Calls.ext_of (length_any _ _ _ _)))))
    refine wpQuiet_nil ?_
    rintro _ ⟨x, rfl⟩
    have hbx := x.2
    go_wp2
    go_ret
    exact ⟨by unfold mapOk; rw [HL.out]; rfl, by have := HB.out; (repeat (first | (with_reducible exact Below.refl _ _) | (with_reducible assumption) | (with_reducible refine below_step ?_ (by assumption)) | (with_reducible apply below_alloc) | (with_reducible apply below_drewN)))⟩
  | true =>
    have hl1 : ((f.length : Int) == (n : Int)) = true := by simp at hl ⊢; omega
    have HL := Aside0.mk hl
    clear hl
    go_enter Try.func183, Try.ntmps183
    go_wp2
    rw [← hw1]
    clear hw1
    refine wp_region_ext (by kernel_rfl) (by kernel_rfl) ?_
    repeat (go_big_quiet_step ((first | (go_at_call 132; exact Calls.ext_of (length_any _ _ _ _)) | (go_at_call 117; exact Calls.ext_of (areAll _ _ _ (inMap m) (fun _ => True) _ (HV.out.below (Subtype.property _)) (HP.out.below (Subtype.property _)) (fun _ _ => trivial))))))
    refine wpQuiet_nil ?_
    rintro _ ⟨x, rfl⟩
    have hbx := x.2
    go_wp2
    go_ret
    exact ⟨by unfold mapOk; rw [HL.out]; rfl, by have := HB.out; (repeat (first | (with_reducible exact Below.refl _ _) | (with_reducible assumption) | (with_reducible refine below_step ?_ (by assumption)) | (with_reducible apply below_alloc) | (with_reducible apply below_drewN)))⟩

set_option maxHeartbeats 2000000 in
theorem specMap (n m : Nat) (hn : n ≤ 6) (hm : m ≤ 6) (ku lu v : Value) (f : List Int) (w : World) (hr : ReadI w v f) :
    Calls Try.prog 143 #[cx n ku, cx m lu, v] w fun e w' => e = .returned (.bool (mapOk n m f)) ∧ Below w.heap.size w w' := by
  obtain ⟨w1, hw1⟩ : ∃ w1, w1 = (w.alloc (.cells #[.int .i64 n, ku] 28)).alloc (.cells #[.int .i64 m, lu] 28) := ⟨_, rfl⟩
  have hB : Below w.heap.size w w1 := by rw [hw1]; exact ((Below.refl _ w).alloc (Nat.le_refl _) _).alloc (by simp) _
  have hc0 : w1.cell? ⟨w.heap.size, 0, none⟩ = some (.int .i64 n) := by rw [hw1]; simp
  have hc1 : w1.cell? ⟨w.heap.size + 1, 0, none⟩ = some (.int .i64 m) := by rw [hw1]; simp
  have hr1 := hr.below hB
  have HB := Aside0.mk hB
  obtain ⟨A, c, rfl, hc, hr2⟩ := hr1
  have HR := Aside0.mk hr2
  have hlen := hr2.2.1
  clear hr hr2 hB
  go_enter Try.func143, Try.ntmps143
  go_wp2
  rw [← hw1]
  clear hw1
  go_loopw [7] (fun v wr => ∃ i : Nat, v = .int .i64 i ∧ i ≤ f.length ∧ Aside0 (∀ k, k < i → inMap m (f.getD k 0) = true) ∧ Below w1.heap.size w1 wr) (fun v _ => f.length - (intOf v).toNat)
  case atStart => exact ⟨0, rfl, Nat.zero_le _, ⟨fun j hj => absurd hj (Nat.not_lt_zero _)⟩, Below.refl _ _⟩
  case round =>
    obtain ⟨i, rfl, hi, HU, hb⟩ := hrel
    have hc0r := pw_cell_below hb hc0
    have hc1r := pw_cell_below hb hc1
    have HBr := Aside0.mk hb
    by_cases hlt : i < f.length
    · obtain ⟨ad, y, rfl, hcell, HY⟩ := ReadI.get (Kd.C_below HR.out hb) hlt
      clear hb
      have hx1 : ∀ x : Ext wr, x.1.cell? ⟨w.heap.size + 1, 0, none⟩ = some (.int .i64 m) := fun x => Ext.cell hc1r x
      have hx2 : ∀ x : Ext wr, x.1.cell? (ad.add i) = some (.int .i64 y) := fun x => Ext.cell hcell x
      clear hcell
      have hj1 : (0 : Int) ≤ (i : Int) := by omega
      have hj2 : (i : Int) < (f.length : Int) := by omega
      cases hin : inMap m y with
      | false =>
        have HSI : Aside0 (∀ w : World, Calls Try.prog 108 #[.int .i64 y, .int .i64 0, .int .i64 ((m : Int) - 1)] w fun e w' => e = .returned (.bool false) ∧ Below w.heap.size w w') := ⟨fun w => by rw [← hin]; exact specIn _ _ _ w⟩
        have HIN := Aside0.mk hin
        clear hin
        go_wp2
        refine wp_region_ext (by kernel_rfl) (by kernel_rfl) ?_
        repeat (go_big_quiet_step ((first | (go_at_call 108; exact Calls.ext_of (HSI.out _)))))
        refine wpQuiet_nil ?_
        rintro _ ⟨x, rfl⟩
        have hbx := x.2
        go_wp2
        go_ret
        refine ⟨?_, by have := HB.out; have := HBr.out; (repeat (first | (with_reducible exact Below.refl _ _) | (with_reducible assumption) | (with_reducible refine below_step ?_ (by assumption)) | (with_reducible apply below_alloc) | (with_reducible apply below_drewN)))⟩
        unfold mapOk
        rw [all_false hlt HY.out HIN.out, Bool.and_false]; rfl
      | true =>
        have HSI : Aside0 (∀ w : World, Calls Try.prog 108 #[.int .i64 y, .int .i64 0, .int .i64 ((m : Int) - 1)] w fun e w' => e = .returned (.bool true) ∧ Below w.heap.size w w') := ⟨fun w => by rw [← hin]; exact specIn _ _ _ w⟩
        have HIN := Aside0.mk hin
        clear hin
        go_wp2
        refine wp_region_ext (by kernel_rfl) (by kernel_rfl) ?_
        repeat (go_big_quiet_step ((first | (go_at_call 108; exact Calls.ext_of (HSI.out _)))))
        refine wpQuiet_nil ?_
        rintro _ ⟨x, rfl⟩
        have hbx := x.2
        go_wp2
        go_roundw
        case rel =>
          refine ⟨i + 1, by go_num, by omega, ⟨fun k hk => ?_⟩, by have := HBr.out; (repeat (first | (with_reducible exact Below.refl _ _) | (with_reducible assumption) | (with_reducible refine below_step ?_ (by assumption)) | (with_reducible apply below_alloc) | (with_reducible apply below_drewN)))⟩
          rcases Nat.lt_succ_iff_lt_or_eq.1 hk with h | rfl
          · exact HU.out k h
          · rw [HY.out]; exact HIN.out
        case measure => simp [intOf]; omega
    · have HE : Aside0 (f.all (inMap m) = true) := ⟨all_true (fun k hk => HU.out k (by omega))⟩
      clear hb
      go_wp2
      go_ret
      refine ⟨?_, by have := HB.out; have := HBr.out; (repeat (first | (with_reducible exact Below.refl _ _) | (with_reducible assumption) | (with_reducible refine below_step ?_ (by assumption)) | (with_reducible apply below_alloc) | (with_reducible apply below_drewN)))⟩
      unfold mapOk
      rw [HE.out, Bool.and_true]
      have : ((f.length : Int) == (n : Int)) = decide (f.length = n) := by
        by_cases h : f.length = n <;> simp [h]; omega
      simp [this]
end Go.Proofs.Ytcbkchnfjeegmaa.H

namespace Go.Proofs.Ytcbkchnfjeegmaa.H
open Go.RowKit Go.Proofs.YtcbkchnfjeegmaaW.PrintWords Go.Proofs.YtcbkchnfjeegmaaW.PrintLast Go.Proofs.YtcbkchnfjeegmaaW.PrintMore
set_option linter.unusedVariables false
set_option linter.unusedSimpArgs false

/-- a slice of slices of numbers -/
def ReadS (w : World) (v : Value) (xss : List (List Int)) : Prop := ∃ A c, v = .slice A xss.length c ∧ xss.length ≤ 1000 ∧ ∀ i xs, xss[i]? = some xs → ∃ ad u, A = some ad ∧ w.cell? (ad.add i) = some u ∧ ReadI w u xs
theorem ReadS.below {w w' : World} {v : Value} {xss : List (List Int)} (h : ReadS w v xss) (hb : Below w.heap.size w w') : ReadS w' v xss := by
  obtain ⟨A, c, rfl, hl, hr⟩ := h
  refine ⟨A, c, rfl, hl, fun i xs hi => ?_⟩
  obtain ⟨ad, u, e, hc, hu⟩ := hr i xs hi
  exact ⟨ad, u, e, pw_cell_below hb hc, hu.below hb⟩
theorem ReadS.nil (w : World) : ReadS w (.slice none 0 0) [] := ⟨none, 0, rfl, by simp, fun i xs h => by simp at h⟩

/-- a function value of one slice of numbers that answers a bool, and makes memory at the most -/
def PredS (w : World) (fv : Value) (p : List Int → Bool) (dom : List Int → Prop) : Prop :=
  ∃ g first caps, fv = .func (.func g) first caps ∧ Enters g ∧ ∀ w1 u xs, Below w.heap.size w w1 → ReadI w1 u xs → dom xs → Calls Try.prog g (first ++ #[u] ++ caps) w1 fun e w2 => e = .returned (.bool (p xs)) ∧ Below w1.heap.size w1 w2
theorem PredS.below {w w' : World} {fv : Value} {p : List Int → Bool} {dom : List Int → Prop} (h : PredS w fv p dom) (hb : Below w.heap.size w w') : PredS w' fv p dom := by
  obtain ⟨g, first, caps, rfl, hent, hp⟩ := h
  exact ⟨g, first, caps, rfl, hent, fun w1 u xs h1 hx hd => hp w1 u xs (hb.trans (h1.mono hb.size)) hx hd⟩

theorem idxS_found {p : List Int → Bool} {xss : List (List Int)} {i : Nat} {xs : List Int} (hi : xss[i]? = some xs) (h0 : ∀ (j : Nat) (xs : List Int), j < i → xss[j]? = some xs → p xs = false) (h1 : p xs = true) : idx p xss = i := by
  obtain ⟨hl, e1⟩ := List.getElem?_eq_some_iff.1 hi
  have e : xss.findIdx p = i := by
    rw [List.findIdx_eq hl]
    refine ⟨by rw [e1]; exact h1, fun j hj => h0 j _ hj (List.getElem?_eq_getElem (by omega))⟩
  unfold idx; rw [e, if_pos hl]
theorem idxS_none {p : List Int → Bool} {xss : List (List Int)} (h0 : ∀ (j : Nat) (xs : List Int), xss[j]? = some xs → p xs = false) : idx p xss = -1 := by
  have e : ¬ xss.findIdx p < xss.length := by
    rw [List.findIdx_lt_length]
    rintro ⟨x, hx, hp⟩
    obtain ⟨j, hj, rfl⟩ := List.getElem_of_mem hx
    rw [h0 j _ (List.getElem?_eq_getElem hj)] at hp; cases hp
  unfold idx; rw [if_neg e]

set_option maxHeartbeats 1000000 in
theorem indexFuncS (v : Value) (xss : List (List Int)) (fv : Value) (p : List Int → Bool) (dom : List Int → Prop) (w : World) (hr : ReadS w v xss) (hp : PredS w fv p dom) (hd : ∀ xs ∈ xss, dom xs) :
    Calls Try.prog 201 #[v, fv] w fun e w' => e = .returned (.int .i64 (idx p xss)) ∧ Below w.heap.size w w' := by
  obtain ⟨g, first, caps, rfl, hent, hp⟩ := hp
  obtain ⟨A, c, rfl, hl, hr⟩ := hr
  have HR := Aside0.mk hr
  have HP := Aside0.mk hp
  have HD := Aside0.mk hd
  unfold Enters at hent
  clear hr hp hd
  go_enter Try.func201, Try.ntmps201
  go_wp2
  go_loopw [8] (fun v wr => ∃ i : Nat, v = .int .i64 i ∧ i ≤ xss.length ∧ Aside0 (∀ j xs, j < i → xss[j]? = some xs → p xs = false) ∧ Below w.heap.size w wr) (fun v _ => xss.length - (intOf v).toNat)
  case atStart => exact ⟨0, rfl, Nat.zero_le _, ⟨fun j _ hj => absurd hj (Nat.not_lt_zero _)⟩, Below.refl _ _⟩
  case round =>
    obtain ⟨i, rfl, hi, HN, hb⟩ := hrel
    by_cases hlt : i < xss.length
    · obtain ⟨xs, hxs⟩ : ∃ xs, xss[i]? = some xs := ⟨_, List.getElem?_eq_getElem hlt⟩
      obtain ⟨ad, u, rfl, hcell, hu⟩ := HR.out i xs hxs
      have hcell := pw_cell_below hb hcell
      have HU := Aside0.mk (hu.below hb)
      have HB := Aside0.mk hb
      have HX := Aside0.mk hxs
      have HDX := Aside0.mk (HD.out xs (List.mem_of_getElem? hxs))
      clear hxs hu hb
      cases hpy : p xs with
      | false =>
        go_wp2_with (first | (refine (HP.out _ _ _ HB.out HU.out HDX.out).mono ?_; rintro e w' ⟨rfl, hb2⟩))
        go_roundw
        case rel => exact ⟨i + 1, by go_num, by omega, ⟨fun j xs' hj hx => by
          rcases Nat.lt_succ_iff_lt_or_eq.1 hj with h | rfl
          · exact HN.out j xs' h hx
          · have := HX.out; rw [hx] at this; cases this; exact hpy⟩, HB.out.trans (hb2.mono HB.out.size)⟩
        case measure => simp [intOf]; omega
      | true =>
        go_wp2_with (first | (refine (HP.out _ _ _ HB.out HU.out HDX.out).mono ?_; rintro e w' ⟨rfl, hb2⟩))
        go_ret
        exact ⟨by rw [idxS_found HX.out HN.out hpy]; rfl, HB.out.trans (hb2.mono HB.out.size)⟩
    · go_wp2
      go_ret
      exact ⟨by rw [idxS_none (fun j xs hj => HN.out j xs (by have := (List.getElem?_eq_some_iff.1 hj).1; omega) hj)]; rfl, hb⟩

theorem idxS_any {p : List Int → Bool} {xs : List (List Int)} : decide (0 ≤ idx p xs) = xs.any p := by
  unfold idx
  cases h : xs.any p with
  | true =>
    have : xs.findIdx p < xs.length := by rw [List.findIdx_lt_length]; simpa using h
    rw [if_pos this]; simp
  | false =>
    have : ¬ xs.findIdx p < xs.length := by rw [List.findIdx_lt_length]; simpa using h
    rw [if_neg this]; simp

set_option maxHeartbeats 1000000 in
theorem containsFuncS (v : Value) (xss : List (List Int)) (fv : Value) (p : List Int → Bool) (dom : List Int → Prop) (w : World) (hr : ReadS w v xss) (hp : PredS w fv p dom) (hd : ∀ xs ∈ xss, dom xs) :
    Calls Try.prog 161 #[v, fv] w fun e w' => e = .returned (.bool (xss.any p)) ∧ Below w.heap.size w w' := by
  have HR := Aside0.mk hr
  have HP := Aside0.mk hp
  have HD := Aside0.mk hd
  clear hp hd
  obtain ⟨A, c, rfl, -⟩ := id hr
  clear hr
  go_enter Try.func161, Try.ntmps161
  go_wp2_with (first | (go_at_call 201; refine (indexFuncS _ _ _ _ _ _ HR.out HP.out HD.out).mono ?_; rintro e w' ⟨rfl, hb2⟩))
  go_ret
  exact ⟨by simp [← idxS_any], hb2⟩

theorem areAllS1 (w : World) (b : Nat) (fv : Value) (p : List Int → Bool) (dom : List Int → Prop) (hc : w.cell? ⟨b, 0, none⟩ = some fv) (hp : PredS w fv p dom) :
    PredS w (.func (.func 162) #[] #[.pointer (some ⟨b, 0, none⟩)]) (fun x => !p x) dom := by
  refine ⟨_, _, _, rfl, Enters.mk' Try.func162 rfl rfl, fun w1 u xs hb hx hd => ?_⟩
  obtain ⟨g, first, caps, rfl, hent, hp⟩ := hp
  have hcell : w1.cell? ⟨b, 0, none⟩ = some (.func (.func g) first caps) := pw_cell_below hb hc
  have H := Aside0.mk (hp w1 u xs hb hx hd)
  unfold Enters at hent
  clear hp hb hx hc hd
  show Calls _ _ #[_, _] _ _
  go_enter Try.func162, Try.ntmps162
  go_wp2_with (first | (refine H.out.mono ?_; rintro e w' ⟨rfl, hb2⟩))
  go_ret
  exact ⟨by simp, hb2⟩

set_option maxHeartbeats 1000000 in
theorem areAllS (v : Value) (xss : List (List Int)) (fv : Value) (p : List Int → Bool) (dom : List Int → Prop) (w : World) (hr : ReadS w v xss) (hp : PredS w fv p dom) (hd : ∀ xs ∈ xss, dom xs) :
    Calls Try.prog 105 #[v, fv] w fun e w' => e = .returned (.bool (xss.all p)) ∧ Below w.heap.size w w' := by
  obtain ⟨g, first, caps, rfl, -⟩ := id hp
  have hba : Below w.heap.size w (w.alloc (.cells #[.func (.func g) first caps] 92)) := Below.alloc (Below.refl _ _) (Nat.le_refl _) _
  have HR := Aside0.mk (hr.below hba)
  have HP := Aside0.mk (areAllS1 (w.alloc (.cells #[.func (.func g) first caps] 92)) w.heap.size _ p dom (by simp) (hp.below hba))
  have HD := Aside0.mk hd
  have HB := Aside0.mk hba
  obtain ⟨A, c, rfl, -⟩ := id hr
  clear hr hp hba hd
  go_enter Try.func105, Try.ntmps105
  go_wp2_with (first | (go_at_call 161; refine (containsFuncS _ _ _ _ _ _ HR.out HP.out HD.out).mono ?_; rintro e w' ⟨rfl, hb2⟩))
  go_ret
  exact ⟨by simp [List.all_eq_not_any_not], HB.out.trans (hb2.mono HB.out.size)⟩
end Go.Proofs.Ytcbkchnfjeegmaa.H
