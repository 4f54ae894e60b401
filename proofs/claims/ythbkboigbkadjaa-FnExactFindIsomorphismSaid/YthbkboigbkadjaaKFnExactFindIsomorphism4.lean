/- What a complex is: of the program and of the reference. slices.Clone. -/
import Derived.WalkSpells
import Derived.Test.YthbkboigbkadjaaKFnExactFindIsomorphism1
import Derived.Test.YthbkboigbkadjaaKFnExactFindIsomorphism2
import Derived.Test.YthbkboigbkadjaaKFnExactFindIsomorphism3

namespace Go.Proofs.Ythbkboigbkadjaa.H
open Go.RowKit Go.Proofs.YthbkboigbkadjaaW.PrintWords Go.Proofs.YthbkboigbkadjaaW.PrintLast Go.Proofs.YthbkboigbkadjaaW.PrintMore
set_option linter.unusedVariables false
set_option linter.unusedSimpArgs false

theorem pow_wrap62 : ∀ v, v < 63 → wrap64 ((2 : Int) ^ v) = ((2 ^ v : Nat) : Int) := by decide +kernel
theorem pow_bd62 : ∀ v, v < 63 → 1 ≤ 2 ^ v ∧ 2 ^ v ≤ 4611686018427387904 := by decide +kernel

theorem OwnI.empty {b : Nat} (w : World) (hb : b ≤ w.heap.size) : OwnI b (w.alloc (.cells #[] 2)) (.slice (some ⟨w.heap.size, 0, none⟩) 0 0) [] :=
  OwnI.of_row (xs := []) ⟨rfl, .inr ⟨w.heap.size, 0, #[], rfl, hb, World.alloc_heap_new _ _, Nat.le_refl _, by decide, rfl, rfl⟩⟩ (Nat.le_refl _)
/-- what the reference collects over the first k places, from 62 down -/
def blw (f k : Nat) : List Int := (List.range k).filterMap fun i => if f.testBit (62 - i) && !(f == 2 ^ (62 - i)) then some ((f : Int) - ((2 ^ (62 - i) : Nat) : Int)) else none
theorem blw_hit (f v : Nat) (hv : v ≤ 62) (h : f.testBit v = true) (h2 : ¬ f = 2 ^ v) : blw f (62 - v + 1) = blw f (62 - v) ++ [(f : Int) - ((2 ^ v : Nat) : Int)] := by
  unfold blw
  rw [List.range_succ, List.filterMap_append]
  have e : 62 - (62 - v) = v := by omega
  simp [e, h, h2]
theorem blw_miss (f v : Nat) (hv : v ≤ 62) (h : f.testBit v = false ∨ f = 2 ^ v) : blw f (62 - v + 1) = blw f (62 - v) := by
  unfold blw
  rw [List.range_succ, List.filterMap_append]
  have e : 62 - (62 - v) = v := by omega
  rcases h with h | h <;> simp [e, h]
theorem blw_len (f k : Nat) : (blw f k).length ≤ k := by
  unfold blw
  exact Nat.le_trans (List.length_filterMap_le _ _) (by simp)
theorem blw_all : ∀ f, f < 64 → blw f 63 = below f := by decide +kernel

set_option maxHeartbeats 1000000 in
theorem specBelow (f : Nat) (hf : f ≤ 63) (w : World) :
    Calls Try.prog 105 #[.int .i64 f] w fun e w' => ∃ v, e = .returned v ∧ OwnI w.heap.size w' v (below f) ∧ Below w.heap.size w w' := by
  rw [← blw_all f (by omega)]
  go_enter Try.func105, Try.ntmps105
  go_wp2
  go_loopw [3, 4] (fun v i wr => ∃ k : Nat, i = .int .i64 ((k : Int) - 1) ∧ k ≤ 63 ∧ Aside0 (OwnI w.heap.size wr v (blw f (63 - k))) ∧ Aside0 (Below w.heap.size w wr)) (fun _ i _ => (intOf i + 1).toNat)
  case atStart => exact ⟨63, rfl, by omega, ⟨by simp [blw]; exact OwnI.empty _ (Nat.le_refl _)⟩, ⟨Below.alloc (Below.refl _ _) (Nat.le_refl _) _⟩⟩
  case round =>
    obtain ⟨k, rfl, hk, HO, HB⟩ := hrel
    by_cases hlt : 0 < k
    · obtain ⟨v, rfl⟩ : ∃ v, k = v + 1 := ⟨k - 1, by omega⟩
      have ev : (((v + 1 : Nat) : Int) - 1) = (v : Int) := by omega
      rw [ev]
      have e62 : 63 - (v + 1) = 62 - v := by omega
      rw [e62] at HO
      have hbit := bit_of f v (by omega)
      have hsh := pow_wrap62 v (by omega)
      have hpb := pow_bd62 v (by omega)
      have HE : Aside0 (63 - v = 62 - v + 1) := ⟨by omega⟩
      obtain ⟨p, hp⟩ : ∃ p : Nat, p = 2 ^ v := ⟨_, rfl⟩
      rw [← hp] at hsh hpb
      have HP := Aside0.mk hp
      clear hp ev e62
      cases ht : f.testBit v with
      | true =>
        rw [ht, if_pos rfl] at hbit
        have HT := Aside0.mk ht
        clear ht
        by_cases hfp : f = p
        · have hfb : ((f : Int) != (p : Int)) = false := by simp; omega
          have HF := Aside0.mk hfp
          clear hfp
          go_wp2
          go_roundw
          case rel => exact ⟨v, by go_num, by omega, ⟨by rw [HE.out, blw_miss f v (by omega) (.inr (HF.out.trans HP.out))]; exact HO.out⟩, HB⟩
          case measure => simp [intOf]
        · have hfb : ((f : Int) != (p : Int)) = true := by simp; omega
          have HF := Aside0.mk hfp
          clear hfp
          go_wp2_with (first | (at_builtin; refine app_own (w0 := w) w.heap.size rfl (.tmp 23) (.tmp 29) rfl _ (blw f (62 - v)) ((f : Int) - p) rfl rfl HO.out HB.out HB.out.size ?hl ?_; (case hl => have := blw_len f (62 - v); omega); intro v1 w1 ho hb hg hat; have HO1 := Aside0.mk ho; have HB1 := Aside0.mk hb; clear ho hb hg hat))
          go_roundw
          case rel => exact ⟨v, by go_num, by omega, ⟨by rw [HE.out, blw_hit f v (by omega) HT.out (fun e => HF.out (e.trans HP.out.symm)), ← HP.out]; exact HO1.out⟩, HB1⟩
          case measure => simp [intOf]
      | false =>
        rw [ht, if_neg (by decide)] at hbit
        have HT := Aside0.mk ht
        clear ht
        go_wp2
        go_roundw
        case rel => exact ⟨v, by go_num, by omega, ⟨by rw [HE.out, blw_miss f v (by omega) (.inl HT.out)]; exact HO.out⟩, HB⟩
        case measure => simp [intOf]
    · obtain rfl : k = 0 := by omega
      go_wp2
      go_ret
      exact ⟨_, rfl, HO.out, HB.out⟩

/-- the i-th face is as it has to be -/
def upAt (n : Nat) (l : List Int) (i : Nat) : Bool := (decide (1 ≤ l.getD i 0) && decide (l.getD i 0 ≤ ((2 ^ n : Nat) : Int) - 1)) && !(decide (0 < i) && decide (l.getD i 0 ≤ l.getD (i - 1) 0))
def belowIn (l : List Int) (f : Int) : Bool := (below f.toNat).all fun g => decide (g ∈ l)
def cxUp (n : Nat) (l : List Int) : Bool := (List.range l.length).all (upAt n l)
/-- these make a complex -/
def cxOk (a : Int) (l : List Int) : Bool := (decide (1 ≤ a) && decide (a ≤ 6)) && (cxUp a.toNat l && l.all (belowIn l))

theorem cxUp_at {n : Nat} {l : List Int} {i : Nat} (h : cxUp n l = true) (hi : i < l.length) : upAt n l i = true := by
  unfold cxUp at h
  rw [List.all_eq_true] at h
  exact h i (List.mem_range.2 hi)
theorem cxUp_bd {n : Nat} {l : List Int} (h : cxUp n l = true) : ∀ x ∈ l, 1 ≤ x ∧ x ≤ ((2 ^ n : Nat) : Int) - 1 := by
  intro x hx
  obtain ⟨i, hi, rfl⟩ := List.getElem_of_mem hx
  have := cxUp_at h hi
  unfold upAt at this
  simp only [Bool.and_eq_true, decide_eq_true_eq] at this
  have e : l.getD i 0 = l[i] := by simp [List.getD_eq_getElem?_getD, hi]
  rw [e] at this
  exact this.1
theorem cxUp_asc {n : Nat} {l : List Int} (h : cxUp n l = true) : l.Pairwise (· < ·) := by
  have key : ∀ k i, i + k < l.length → 0 < k → l.getD i 0 < l.getD (i + k) 0 := by
    intro k
    induction k with
    | zero => intro i _ h0; omega
    | succ k ih =>
      intro i hi _
      have h1 := cxUp_at h (i := i + (k + 1)) hi
      unfold upAt at h1
      simp only [Bool.and_eq_true, Bool.not_eq_true', Bool.and_eq_false_iff, decide_eq_false_iff_not] at h1
      have h2 : l.getD (i + k) 0 < l.getD (i + (k + 1)) 0 := by
        rcases h1.2 with h3 | h3
        · omega
        · have e : i + (k + 1) - 1 = i + k := by omega
          rw [e] at h3; omega
      by_cases hk : k = 0
      · subst hk; exact h2
      · have := ih i (by omega) (by omega)
        omega
  rw [List.pairwise_iff_getElem]
  intro i j hi hj hij
  have := key (j - i) i (by omega) (by omega)
  have e : i + (j - i) = j := by omega
  rw [e] at this
  simpa [List.getD_eq_getElem?_getD, hi, hj] using this
theorem pw6 {n : Nat} (h : n ≤ 6) : 1 ≤ 2 ^ n ∧ 2 ^ n ≤ 64 := by
  rcases (by omega : n = 0 ∨ n = 1 ∨ n = 2 ∨ n = 3 ∨ n = 4 ∨ n = 5 ∨ n = 6) with rfl | rfl | rfl | rfl | rfl | rfl | rfl <;> decide
theorem asc_len {l : List Int} (h : l.Pairwise (· < ·)) {b : Nat} (hb : ∀ x ∈ l, 1 ≤ x ∧ x ≤ (b : Int)) : l.length ≤ b := by
  have key : ∀ i, i < l.length → (i : Int) + 1 ≤ l.getD i 0 := by
    intro i
    induction i with
    | zero => intro h0; have := (hb _ (mem_at h0 rfl)).1; simpa using this
    | succ i ih => intro hi; have h1 := ih (by omega); have h2 := asc_lt h (show i < i + 1 by omega) hi; push_cast; omega
  cases hl : l.length with
  | zero => omega
  | succ m =>
    have h1 := key m (by omega)
    have h2 := (hb _ (mem_at (i := m) (by omega) rfl)).2
    omega
theorem cxUp_len {n : Nat} (hn : n ≤ 6) {l : List Int} (h : cxUp n l = true) : l.length ≤ 63 := by
  have := pw6 hn
  have h1 := asc_len (cxUp_asc h) (b := 2 ^ n - 1) (fun x hx => by have := cxUp_bd h x hx; omega)
  omega
/-- what is known of a complex -/
structure Cx (n : Nat) (l : List Int) : Prop where
  lo : 1 ≤ n
  hi : n ≤ 6
  asc : l.Pairwise (· < ·)
  bd : ∀ x ∈ l, 1 ≤ x ∧ x ≤ ((2 ^ n : Nat) : Int) - 1
  len : l.length ≤ 63
theorem cxOk_cx {a : Int} {l : List Int} (h : cxOk a l = true) : ∃ n : Nat, a = n ∧ Cx n l ∧ l.all (belowIn l) = true := by
  unfold cxOk at h
  simp only [Bool.and_eq_true, decide_eq_true_eq] at h
  obtain ⟨⟨h1, h2⟩, h3, h4⟩ := h
  refine ⟨a.toNat, by omega, ⟨by omega, by omega, cxUp_asc h3, cxUp_bd h3, cxUp_len (by omega) h3⟩, h4⟩
theorem Cx.nat {n : Nat} {l : List Int} (h : Cx n l) {x : Int} (hx : x ∈ l) : ∃ f : Nat, x = f ∧ 1 ≤ f ∧ f ≤ 63 := by
  have := h.bd x hx
  have := pw6 h.hi
  exact ⟨x.toNat, by omega, by omega, by omega⟩

/-- has as a function value -/
theorem hasPred {w : World} {a : Int} {u : Value} {l : List Int} (hr : ReadI w u l) (hs : l.Pairwise (· < ·)) (hl : l.length ≤ 1000) :
    PredI w (.func (.func 62) #[cx a u] #[]) (fun f => decide (f ∈ l)) (fun _ => True) :=
  ⟨_, _, _, rfl, Enters.mk' Try.func62 rfl rfl, fun w1 x hb _ => has a u l x w1 (hr.below hb) hs hl⟩

set_option maxHeartbeats 1000000 in
theorem isComplex1 (w : World) (b : Nat) (a : Int) (u : Value) (l : List Int) (hr : ReadI w u l) (hs : l.Pairwise (· < ·)) (hl : l.length ≤ 1000) (h0 : w.cell? ⟨b, 0, none⟩ = some (.int .i64 a)) (h1 : w.cell? ⟨b, 1, none⟩ = some u) :
    PredI w (.func (.func 115) #[] #[.pointer (some ⟨b, 0, none⟩)]) (belowIn l) (fun f => 1 ≤ f ∧ f ≤ 63) := by
  refine ⟨_, _, _, rfl, Enters.mk' Try.func115 rfl rfl, fun w1 x hb hx => ?_⟩
  obtain ⟨f, rfl⟩ : ∃ f : Nat, x = f := ⟨x.toNat, by omega⟩
  have hf : f ≤ 63 := by omega
  have hc0 : w1.cell? ⟨b, 0, none⟩ = some (.int .i64 a) := pw_cell_below hb h0
  have hc1 : w1.cell? ⟨b, 1, none⟩ = some u := pw_cell_below hb h1
  have HR := Aside0.mk (hr.below hb)
  have HS := Aside0.mk hs
  clear hb h0 h1 hs hx
  show Calls _ _ #[_, _] _ _
  go_enter Try.func115, Try.ntmps115
  go_wp2
  have hmx : Try.prog.follows .mixedOrders = true := by kernel_rfl
  have hD : Below w1.heap.size w1 w1.drew := (Below.refl _ _).drew
  go_region_with (first | (go_at_call 116; refine (borders f hf _).mono ?_; rintro e w3 ⟨v, rfl, ho, hb⟩; have hc0' := pw_cell_below hb (show w1.drew.cell? _ = _ from hc0); have hc1' := pw_cell_below hb (show w1.drew.cell? _ = _ from hc1); obtain ⟨A3, c3, rfl, -⟩ := ho.read; have HO := Aside0.mk ho; clear ho) | (go_at_call 114; refine (areAll _ _ _ (fun g => decide (g ∈ l)) (fun _ => True) _ HO.out.read (hasPred (HR.out.below ?hx) HS.out hl) (fun _ _ => trivial)).mono ?_; (case hx => (repeat (first | (with_reducible exact Below.refl _ _) | (with_reducible assumption) | (with_reducible refine below_step ?_ (by assumption)) | (with_reducible apply below_alloc) | (with_reducible apply below_drewN)))); rintro e w4 ⟨rfl, hb4⟩))
  all_goals go_wp2
  all_goals go_ret
  all_goals exact ⟨rfl, by (repeat (first | (with_reducible exact Below.refl _ _) | (with_reducible assumption) | (with_reducible refine below_step ?_ (by assumption)) | (with_reducible apply below_alloc) | (with_reducible apply below_drewN)))⟩

theorem up_false {n : Nat} {l : List Int} {i : Nat} (hi : i < l.length) (h : upAt n l i = false) : cxUp n l = false := by
  unfold cxUp
  rw [List.all_eq_false]
  exact ⟨i, List.mem_range.2 hi, by rw [h]; decide⟩
theorem up_true {n : Nat} {l : List Int} (h : ∀ i, i < l.length → upAt n l i = true) : cxUp n l = true := by
  unfold cxUp
  rw [List.all_eq_true]
  exact fun i hi => h i (List.mem_range.1 hi)

set_option maxHeartbeats 2000000 in
theorem isComplex (a : Int) (u : Value) (l : List Int) (w : World) (hr : ReadI w u l) :
    Calls Try.prog 53 #[cx a u] w fun e w' => e = .returned (.bool (cxOk a l)) ∧ Below w.heap.size w w' := by
  have hba : Below w.heap.size w (w.alloc (.cells #[.int .i64 a, u] 28)) := Below.alloc (Below.refl _ _) (Nat.le_refl _) _
  have HB := Aside0.mk hba
  have HR0 := Aside0.mk (hr.below hba)
  obtain ⟨A, c, rfl, hc, hr⟩ := id hr
  have HR := Aside0.mk (Kd.C_below hr hba)
  have hlen : l.length ≤ 9223372036854775807 := hr.2.1
  clear hr hba
  obtain ⟨w1, hw1⟩ : ∃ w1, w1 = w.alloc (Obj.cells #[.int .i64 a, Value.slice A l.length c] 28) := ⟨_, rfl⟩
  have hc0 : w1.cell? ⟨w.heap.size, 0, none⟩ = some (.int .i64 a) := by rw [hw1]; simp
  have hc1 : w1.cell? ⟨w.heap.size, 1, none⟩ = some (Value.slice A l.length c) := by rw [hw1]; simp
  rw [← hw1] at HB HR HR0
  by_cases ha : 1 ≤ a ∧ a ≤ 6
  · obtain ⟨n, rfl⟩ : ∃ n : Nat, a = n := ⟨a.toNat, by omega⟩
    have hs : (decide ((1 : Int) ≤ n) && decide ((n : Int) ≤ 6)) = true := by simp; omega
    have hn : 1 ≤ n ∧ n ≤ 6 := by omega
    have HA : Aside0 (cxOk n l = (cxUp n l && l.all (belowIn l))) := ⟨by unfold cxOk; rw [hs]; rfl⟩
    obtain ⟨N, hN⟩ : ∃ N : Nat, N = 2 ^ n := ⟨_, rfl⟩
    have HN := Aside0.mk hN
    clear hN ha
    go_enter Try.func53, Try.ntmps53
    go_wp2_with (first | (rw [← hw1]; clear hw1; go_at_call 113; refine (isSize _ _).mono ?_; rintro e w2 ⟨rfl, hb⟩; rw [hs]; have hc0 := pw_cell_below hb hc0; have hc1 := pw_cell_below hb hc1; have HB2 := Aside0.mk hb; clear hb))
    go_loopw [12] (fun v wr => ∃ i : Nat, v = .int .i64 i ∧ i ≤ l.length ∧ Aside0 (∀ k, k < i → upAt n l k = true) ∧ Below w2.heap.size w2 wr) (fun v _ => l.length - (intOf v).toNat)
    case atStart => exact ⟨0, rfl, Nat.zero_le _, ⟨fun j hj => absurd hj (Nat.not_lt_zero _)⟩, Below.refl _ _⟩
    case round =>
      obtain ⟨i, rfl, hi, HU, hb⟩ := hrel
      have hc0r := pw_cell_below hb hc0
      have hc1r := pw_cell_below hb hc1
      have HBr := Aside0.mk (HB2.out.trans (hb.mono HB2.out.size))
      have HB3 := Aside0.mk hb
      clear hb
      by_cases hlt : i < l.length
      · obtain ⟨ad, y, rfl, hcell, HY⟩ := ReadI.get (Kd.C_below HR.out HBr.out) hlt
        cases hwi : (decide ((1 : Int) ≤ y) && decide (y ≤ (N : Int) - 1)) with
        | false =>
          go_wp2_with (first | (go_at_call 99; refine (full n hn.2 _ _).mono ?_; rintro e w3 ⟨rfl, hb3⟩; rw [← HN.out]) | (go_at_call 98; refine (within _ _ _ _).mono ?_; rintro e w4 ⟨rfl, hb4⟩; rw [hwi]))
          go_ret
          exact ⟨by rw [HA.out, up_false hlt (by unfold upAt; rw [HY.out, ← HN.out, hwi]; rfl)]; rfl, by have := HB.out; have := HBr.out; (repeat (first | (with_reducible exact Below.refl _ _) | (with_reducible assumption) | (with_reducible refine below_step ?_ (by assumption)) | (with_reducible apply below_alloc) | (with_reducible apply below_drewN)))⟩
        | true =>
          by_cases h0 : i = 0
          · have h0' : ¬ (0 : Int) < (i : Int) := by omega
            clear h0
            go_wp2_with (first | (go_at_call 99; refine (full n hn.2 _ _).mono ?_; rintro e w3 ⟨rfl, hb3⟩; rw [← HN.out]) | (go_at_call 98; refine (within _ _ _ _).mono ?_; rintro e w4 ⟨rfl, hb4⟩; rw [hwi]))
            go_roundw
            case rel =>
              refine ⟨i + 1, by go_num, by omega, ⟨fun k hk => ?_⟩, by have := HB3.out; (repeat (first | (with_reducible exact Below.refl _ _) | (with_reducible assumption) | (with_reducible refine below_step ?_ (by assumption)) | (with_reducible apply below_alloc) | (with_reducible apply below_drewN)))⟩
              rcases Nat.lt_succ_iff_lt_or_eq.1 hk with h | rfl
              · exact HU.out k h
              · unfold upAt; rw [HY.out, ← HN.out, hwi, decide_eq_false (by omega)]; rfl
            case measure => simp [intOf]; omega
          · have h0' : (0 : Int) < (i : Int) := by omega
            obtain ⟨ad', y', e2, hcell2, HY2⟩ := ReadI.get (Kd.C_below HR.out HBr.out) (i := i - 1) (by omega)
            cases e2
            by_cases hle : y ≤ y'
            · have HLE := Aside0.mk (decide_eq_true hle)
              go_wp2_with (first | (go_at_call 99; refine (full n hn.2 _ _).mono ?_; rintro e w3 ⟨rfl, hb3⟩; rw [← HN.out]; have hcell2 := pw_cell_below hb3 hcell2; have hc1r := pw_cell_below hb3 hc1r) | (go_at_call 98; refine (within _ _ _ _).mono ?_; rintro e w4 ⟨rfl, hb4⟩; rw [hwi]; have hcell2 := pw_cell_below hb4 hcell2; have hc1r := pw_cell_below hb4 hc1r))
              go_ret
              exact ⟨by rw [HA.out, up_false hlt (by unfold upAt; rw [HY.out, HY2.out, ← HN.out, hwi, HLE.out, decide_eq_true (by omega)]; rfl)]; rfl, by have := HB.out; have := HBr.out; (repeat (first | (with_reducible exact Below.refl _ _) | (with_reducible assumption) | (with_reducible refine below_step ?_ (by assumption)) | (with_reducible apply below_alloc) | (with_reducible apply below_drewN)))⟩
            · have HLE := Aside0.mk (decide_eq_false hle)
              go_wp2_with (first | (go_at_call 99; refine (full n hn.2 _ _).mono ?_; rintro e w3 ⟨rfl, hb3⟩; rw [← HN.out]; have hcell2 := pw_cell_below hb3 hcell2; have hc1r := pw_cell_below hb3 hc1r) | (go_at_call 98; refine (within _ _ _ _).mono ?_; rintro e w4 ⟨rfl, hb4⟩; rw [hwi]; have hcell2 := pw_cell_below hb4 hcell2; have hc1r := pw_cell_below hb4 hc1r))
              go_roundw
              case rel =>
                refine ⟨i + 1, by go_num, by omega, ⟨fun k hk => ?_⟩, by have := HB3.out; (repeat (first | (with_reducible exact Below.refl _ _) | (with_reducible assumption) | (with_reducible refine below_step ?_ (by assumption)) | (with_reducible apply below_alloc) | (with_reducible apply below_drewN)))⟩
                rcases Nat.lt_succ_iff_lt_or_eq.1 hk with h | rfl
                · exact HU.out k h
                · unfold upAt; rw [HY.out, HY2.out, ← HN.out, hwi, HLE.out, Bool.and_false]; rfl
              case measure => simp [intOf]; omega
      · have hu : cxUp n l = true := up_true (fun k hk => HU.out k (by omega))
        have HP := Aside0.mk (isComplex1 wr w.heap.size n (.slice A l.length c) l (HR0.out.below HBr.out) (cxUp_asc hu) (by have := cxUp_len hn.2 hu; omega) hc0r hc1r)
        have HBD : Aside0 (∀ x ∈ l, 1 ≤ x ∧ x ≤ 63) := ⟨fun x hx => by have := cxUp_bd hu x hx; have := pw6 hn.2; omega⟩
        have HUU := Aside0.mk hu
        clear hu
        go_wp2_with (first | (go_at_call 114; refine (areAll _ _ _ (belowIn l) _ _ (HR0.out.below HBr.out) HP.out HBD.out).mono ?_; rintro e w' ⟨rfl, hb3⟩))
        go_ret
        exact ⟨by rw [HA.out, HUU.out]; rfl, by have := HB.out; have := HBr.out; (repeat (first | (with_reducible exact Below.refl _ _) | (with_reducible assumption) | (with_reducible refine below_step ?_ (by assumption)) | (with_reducible apply below_alloc) | (with_reducible apply below_drewN)))⟩
  · have hs : (decide ((1 : Int) ≤ a) && decide (a ≤ 6)) = false := by simp; omega
    have HA : Aside0 (cxOk a l = false) := ⟨by unfold cxOk; rw [hs]; rfl⟩
    clear ha
    go_enter Try.func53, Try.ntmps53
    go_wp2_with (first | (rw [← hw1]; clear hw1; go_at_call 113; refine (isSize _ _).mono ?_; rintro e w2 ⟨rfl, hb⟩; rw [hs]))
    go_ret
    exact ⟨by rw [HA.out]; rfl, by have := HB.out; (repeat (first | (with_reducible exact Below.refl _ _) | (with_reducible assumption) | (with_reducible refine below_step ?_ (by assumption)) | (with_reducible apply below_alloc) | (with_reducible apply below_drewN)))⟩
end Go.Proofs.Ythbkboigbkadjaa.H

namespace Go.Proofs.Ythbkboigbkadjaa.H
open Go.RowKit Go.Proofs.YthbkboigbkadjaaW.PrintWords Go.Proofs.YthbkboigbkadjaaW.PrintLast Go.Proofs.YthbkboigbkadjaaW.PrintMore
set_option linter.unusedVariables false
set_option linter.unusedSimpArgs false

set_option maxRecDepth 100000 in
set_option maxHeartbeats 1000000 in
theorem cloneI (v : Value) (xs : List Int) (w : World) (hv : ReadI w v xs) (hl : xs.length ≤ 1000000) :
    Calls Try.prog 112 #[v] w fun e w' => ∃ u, e = .returned u ∧ OwnI w.heap.size w' u xs ∧ Below w.heap.size w w' := by
  obtain ⟨A, c, rfl, hc, hr⟩ := id hv
  cases A with
  | none =>
    have hx : xs = [] := by
      cases xs with
      | nil => rfl
      | cons a r =>
        obtain ⟨ad, e, -⟩ := hr.2.2 (by simp)
        cases e
    subst hx
    have hnil : ∀ W : World, (binOp .eql 22 (.slice none 0 c) (.slice none 0 0)).run Try.prog W = .ok (.bool true) W := fun W => Lib.run_eql_slice_nil W 22 2 none 0 c 0 0 Try.underlying22
    clear hr hv
    go_enter Try.func112, Try.ntmps112
    go_wp2
    go_ret
    exact ⟨_, rfl, OwnI.nil _ _, Below.refl _ _⟩
  | some ad =>
    have hnil : ∀ W : World, (binOp .eql 22 (.slice (some ad) xs.length c) (.slice none 0 0)).run Try.prog W = .ok (.bool false) W := fun W => Lib.run_eql_slice_nil W 22 2 (some ad) xs.length c 0 0 Try.underlying22
    obtain ⟨w1, hw1⟩ : ∃ w1, w1 = w.alloc (.cells #[] 2) := ⟨_, rfl⟩
    have hB : Below w.heap.size w w1 := by rw [hw1]; exact Below.alloc (Below.refl _ _) (Nat.le_refl _) _
    have hs1 : w.heap.size ≤ w1.heap.size := hB.size
    have HO := Aside0.mk (show OwnI w.heap.size w1 (.slice (some ⟨w.heap.size, 0, none⟩) 0 0) [] by rw [hw1]; exact OwnI.empty w (Nat.le_refl _))
    have HB := Aside0.mk hB
    have HR := Aside0.mk (Kd.C_below hr hB)
    clear hr hv hB
    go_enter Try.func112, Try.ntmps112
    go_wp2_with (first | ((with_reducible refine gate_builtin (b := .append) (xs := #[.tmp 5, .tmp 6]) rfl ?_); rw [← hw1]; clear hw1; refine Kd.R_append_row (Value.int .i64) (0 : Int) (w0 := w) w.heap.size rfl (.tmp 5) (.tmp 6) 22 2 (.int .i64 0) 8 rfl Try.underlying22 info64 rfl (by decide) _ [] xs (some ad) xs.length c (fun _ => True) rfl rfl (fun _ _ => trivial) HO.out HR.out HB.out hs1 (by simp; omega) ?_; intro v1 w2 ho hb hg hat; have HO2 := Aside0.mk ho; have HB2 := Aside0.mk hb; clear ho hb hg hat))
    go_ret
    exact ⟨_, rfl, HO2.out, HB2.out⟩
end Go.Proofs.Ythbkboigbkadjaa.H
