/-
  What the checks of package post compute.
-/
import Derived.Test.YtngkmfddamaegaaHeap
namespace Go.Proofs.Ytngkmfddamaegaa
open Go.RowKit

abbrev Pure (w w' : World) : Prop := Only (fun _ => False) w w'

/-- A slice of numbers, read. -/
def Ints (D : Nat → Prop) (w : World) (v : Value) (l : List Int) : Prop :=
  ∃ a len cap, v = .slice a len cap ∧ len = l.length ∧ len ≤ cap ∧ len ≤ 9223372036854775807 ∧ ∀ i, i < len → ∃ b off, a = some ⟨b, off, none⟩ ∧ D b ∧ w.cell? ⟨b, off + i, none⟩ = some (.int .i64 (l[i]?.getD 0))

theorem Ints.keep {D S : Nat → Prop} {w w' : World} {v : Value} {l : List Int} (h : Ints D w v l) (ho : Only S w w') (hd : ∀ k, D k → ¬ S k) : Ints D w' v l := by
  obtain ⟨a, len, cap, hv, hl, hc, hm, h⟩ := h
  refine ⟨a, len, cap, hv, hl, hc, hm, fun i hi => ?_⟩
  obtain ⟨b, off, ha, hD, hcell⟩ := h i hi
  exact ⟨b, off, ha, hD, ho.cell hcell (hd b hD)⟩
theorem Ints.pure {D : Nat → Prop} {w w' : World} {v : Value} {l : List Int} (h : Ints D w v l) (ho : Pure w w') : Ints D w' v l := h.keep ho (fun _ _ f => f)

def outB (lo hi n : Int) : Bool := decide (n < lo) || decide (hi < n)
def withinB (lo hi : Int) (l : List Int) : Bool := !l.any (outB lo hi)
/-- The first index at which p holds, from i on; -1 if it holds nowhere. -/
def idxFrom {α : Type} (p : α → Bool) : List α → Int → Int
  | [], _ => -1
  | x :: r, i => if p x then i else idxFrom p r (i + 1)
theorem idxFrom_ge {α : Type} (p : α → Bool) (l : List α) : ∀ i : Int, 0 ≤ i → (0 ≤ idxFrom p l i ↔ l.any p = true) := by
  induction l with
  | nil => intro i hi; simp [idxFrom]
  | cons x r ih =>
    intro i hi
    by_cases hx : p x = true
    · simp [idxFrom, hx, hi]
    · simp only [idxFrom, hx, if_false, Bool.false_eq_true, List.any_cons, Bool.false_or]
      exact ih (i + 1) (by omega)
theorem idx_step {α : Type} (p : α → Bool) (l : List α) (i : Nat) (x : α) (h : l[i]? = some x) : idxFrom p (l.drop i) i = if p x then (i : Int) else idxFrom p (l.drop (i + 1)) ((i + 1 : Nat) : Int) := by
  obtain ⟨hlt, rfl⟩ := List.getElem?_eq_some_iff.1 h
  rw [List.drop_eq_getElem_cons hlt]; simp [idxFrom]

set_option maxHeartbeats 400000 in
theorem out_any (B0 B1 : Nat) (n lo hi : Int) (w : World) (h0 : w.cell? ⟨B0, 0, none⟩ = some (.int .i64 lo)) (h1 : w.cell? ⟨B1, 0, none⟩ = some (.int .i64 hi)) :
    Calls Try.prog 70 #[.int .i64 n, .pointer (some ⟨B0, 0, none⟩), .pointer (some ⟨B1, 0, none⟩)] w fun e w' => e = .returned (.bool (outB lo hi n)) ∧ w = w' := by
  by_cases c1 : n < lo
  · go_enter Try.func70, Try.ntmps70
    go_wp2
    go_ret
    exact ⟨by simp [outB, c1], rfl⟩
  · have hf : decide (n < lo) = false := by simpa using c1
    go_enter Try.func70, Try.ntmps70
    go_wp2
    go_ret
    exact ⟨by simp [outB, hf], rfl⟩

set_option maxHeartbeats 400000 in
theorem index_within (D : Nat → Prop) (B0 B1 : Nat) (lo hi : Int) (v : Value) (l : List Int) (w : World) (h0 : w.cell? ⟨B0, 0, none⟩ = some (.int .i64 lo)) (h1 : w.cell? ⟨B1, 0, none⟩ = some (.int .i64 hi)) (hv : Ints D w v l) :
    Calls Try.prog 79 #[v, .func (.func 70) #[] #[.pointer (some ⟨B0, 0, none⟩), .pointer (some ⟨B1, 0, none⟩)]] w fun e w' => e = .returned (.int .i64 (idxFrom (outB lo hi) l 0)) ∧ w = w' := by
  obtain ⟨a, len, cap, rfl, hlen, _, hm, hc⟩ := hv
  have HL := Lib.hid hlen; clear hlen
  have HC := Lib.hid hc; clear hc
  go_enter Try.func79, Try.ntmps79
  go_wp2
  go_loop [8] (fun i => ∃ k : Nat, k ≤ len ∧ i = .int .i64 k ∧ Hid (idxFrom (outB lo hi) l 0 = idxFrom (outB lo hi) (l.drop k) k)) (fun i => len - (intOf i).toNat)
  case atStart => exact ⟨0, Nat.zero_le _, rfl, Lib.hid (by simp)⟩
  case round =>
    obtain ⟨k, hk, rfl, hI⟩ := hrel
    by_cases hlt : k < len
    · obtain ⟨b, off, rfl, _, hcell⟩ := HC.out k hlt
      have hstep := Lib.hid (idx_step (outB lo hi) l k (l[k]?.getD 0) (by rw [List.getElem?_eq_getElem (by rw [← HL.out]; exact hlt)]; rfl))
      cases hx : outB lo hi (l[k]?.getD 0) with
      | true =>
        go_wp2_with (go_at_call 70; refine (out_any B0 B1 _ lo hi _ h0 h1).mono ?_; rintro e w' ⟨rfl, rfl⟩)
        go_ret
        exact ⟨by rw [hI.out, hstep.out, hx]; rfl, rfl⟩
      | false =>
        go_wp2_with (go_at_call 70; refine (out_any B0 B1 _ lo hi _ h0 h1).mono ?_; rintro e w' ⟨rfl, rfl⟩)
        go_round
        case rel => exact ⟨k + 1, by omega, by go_num, Lib.hid (by rw [hI.out, hstep.out, hx]; rfl)⟩
        case measure => simp [intOf]; omega
    · go_wp2
      go_ret
      have hk' : l.drop k = [] := List.drop_eq_nil_of_le (by rw [← HL.out]; omega)
      exact ⟨by rw [hI.out, hk']; rfl, rfl⟩

set_option maxHeartbeats 400000 in
theorem contains_within (D : Nat → Prop) (B0 B1 : Nat) (lo hi : Int) (v : Value) (l : List Int) (w : World) (h0 : w.cell? ⟨B0, 0, none⟩ = some (.int .i64 lo)) (h1 : w.cell? ⟨B1, 0, none⟩ = some (.int .i64 hi)) (hv : Ints D w v l) :
    Calls Try.prog 69 #[v, .func (.func 70) #[] #[.pointer (some ⟨B0, 0, none⟩), .pointer (some ⟨B1, 0, none⟩)]] w fun e w' => e = .returned (.bool (l.any (outB lo hi))) ∧ w = w' := by
  have hx := idxFrom_ge (outB lo hi) l 0 (Int.le_refl _)
  go_enter Try.func69, Try.ntmps69
  go_wp2_with fail
  refine (index_within D B0 B1 lo hi v l _ h0 h1 hv).mono ?_
  rintro e w' ⟨rfl, rfl⟩
  have hd : decide (0 ≤ idxFrom (outB lo hi) l 0) = l.any (outB lo hi) := by rw [Bool.eq_iff_iff]; simpa using hx
  clear hx
  go_wp2
  go_ret
  exact ⟨by simp [← hd], rfl⟩

theorem Only.of_alloc {S : Nat → Prop} {w w' : World} {o : Obj} (h : Only S (w.alloc o) w') : Only S w w' :=
  ((Only.refl (fun _ => False) w).alloc o |>.mono (S' := S) (fun _ _ f => f.elim)).trans' h (fun _ _ x => x)

set_option maxHeartbeats 400000 in
theorem within_any (D : Nat → Prop) (lo hi : Int) (v : Value) (l : List Int) (w : World) (hv : Ints D w v l) :
    Calls Try.prog 43 #[.int .i64 lo, .int .i64 hi, v] w fun e w' => e = .returned (.bool (withinB lo hi l)) ∧ Pure w w' := by
  have hP : Pure w ((w.alloc (Obj.cells #[Value.int IntKind.i64 lo] 2)).alloc (Obj.cells #[Value.int IntKind.i64 hi] 2)) := ((Only.refl _ w).alloc _).alloc _
  go_enter Try.func43, Try.ntmps43
  go_wp2_with fail
  refine (contains_within D w.heap.size (w.heap.size + 1) lo hi v l _ ?_ ?_ (hv.pure hP)).mono ?_
  · rw [World.cell?_alloc_past _ _ _ (by simp)]; simp
  · simp
  rintro e w' ⟨rfl, rfl⟩
  go_wp2
  go_ret
  exact ⟨rfl, hP⟩

theorem ints1 {w : World} {b : Nat} {x : Int} (h : w.cell? ⟨b, 0, none⟩ = some (.int .i64 x)) : Ints (fun _ => True) w (.slice (some ⟨b, 0, none⟩) 1 1) [x] :=
  ⟨_, 1, 1, rfl, rfl, Nat.le_refl _, by omega, fun i hi => ⟨b, 0, rfl, trivial, by
    obtain rfl : i = 0 := by omega
    simpa using h⟩⟩
theorem ints2 {w : World} {b : Nat} {x y : Int} (h : w.cell? ⟨b, 0, none⟩ = some (.int .i64 x)) (h1 : w.cell? ⟨b, 1, none⟩ = some (.int .i64 y)) : Ints (fun _ => True) w (.slice (some ⟨b, 0, none⟩) 2 2) [x, y] :=
  ⟨_, 2, 2, rfl, rfl, Nat.le_refl _, by omega, fun i hi => ⟨b, 0, rfl, trivial, by
    rcases (by omega : i = 0 ∨ i = 1) with rfl | rfl
    · simpa using h
    · simpa using h1⟩⟩
theorem within_one (lo hi x : Int) (b : Nat) (w : World) (h : w.cell? ⟨b, 0, none⟩ = some (.int .i64 x)) :
    Calls Try.prog 43 #[.int .i64 lo, .int .i64 hi, .slice (some ⟨b, 0, none⟩) 1 1] w fun e w' => e = .returned (.bool (withinB lo hi [x])) ∧ Pure w w' := within_any _ lo hi _ _ w (ints1 h)
theorem within_two (lo hi x y : Int) (b : Nat) (w : World) (h : w.cell? ⟨b, 0, none⟩ = some (.int .i64 x)) (h1 : w.cell? ⟨b, 1, none⟩ = some (.int .i64 y)) :
    Calls Try.prog 43 #[.int .i64 lo, .int .i64 hi, .slice (some ⟨b, 0, none⟩) 2 2] w fun e w' => e = .returned (.bool (withinB lo hi [x, y])) ∧ Pure w w' := within_any _ lo hi _ _ w (ints2 h h1)

/-- A pool: ranges, and the numbers. -/
structure Pool where
  tickets : List (Int × Int)
  per : Int
  pence : Int
  keep : Int
  step : Int

def Ranges (D : Nat → Prop) (w : World) (v : Value) (l : List (Int × Int)) : Prop :=
  ∃ a len cap, v = .slice a len cap ∧ len = l.length ∧ len ≤ cap ∧ len ≤ 9223372036854775807 ∧ ∀ i, i < len → ∃ b off, a = some ⟨b, off, none⟩ ∧ D b ∧
    w.cell? ⟨b, off + i * 2, none⟩ = some (.int .i64 (l[i]?.getD (0, 0)).1) ∧ w.cell? ⟨b, off + i * 2 + 1, none⟩ = some (.int .i64 (l[i]?.getD (0, 0)).2)
theorem Ranges.keep {D S : Nat → Prop} {w w' : World} {v : Value} {l : List (Int × Int)} (h : Ranges D w v l) (ho : Only S w w') (hd : ∀ k, D k → ¬ S k) : Ranges D w' v l := by
  obtain ⟨a, len, cap, hv, hl, hc, hm, h⟩ := h
  refine ⟨a, len, cap, hv, hl, hc, hm, fun i hi => ?_⟩
  obtain ⟨b, off, ha, hD, hcell, hcell2⟩ := h i hi
  exact ⟨b, off, ha, hD, ho.cell hcell (hd b hD), ho.cell hcell2 (hd b hD)⟩
theorem Ranges.pure {D : Nat → Prop} {w w' : World} {v : Value} {l : List (Int × Int)} (h : Ranges D w v l) (ho : Pure w w') : Ranges D w' v l := h.keep ho (fun _ _ f => f)

def badR (r : Int × Int) : Bool := decide (r.2 < r.1) || !withinB 0 200 [r.1, r.2]

set_option maxHeartbeats 400000 in
theorem bad_any (lo hi : Int) (w : World) :
    Calls Try.prog 42 #[.agg #[.int .i64 lo, .int .i64 hi]] w fun e w' => e = .returned (.bool (badR (lo, hi))) ∧ Pure w w' := by
  by_cases c1 : hi < lo
  · go_enter Try.func42, Try.ntmps42
    go_wp2
    go_ret
    exact ⟨by simp [badR, c1], (Only.refl _ w).alloc _⟩
  · have hf : decide (hi < lo) = false := by simpa using c1
    go_enter Try.func42, Try.ntmps42
    go_wp2_with fail
    refine (within_two 0 200 lo hi _ _ (by simp) (by simp)).mono ?_
    rintro e w' ⟨rfl, hP⟩
    go_wp2
    go_ret
    exact ⟨by simp [badR, hf], hP.of_alloc.of_alloc⟩

set_option maxHeartbeats 400000 in
theorem index_bad (D : Nat → Prop) (v : Value) (l : List (Int × Int)) (w : World) (hv : Ranges D w v l) :
    Calls Try.prog 71 #[v, .func (.func 42) #[] #[]] w fun e w' => e = .returned (.int .i64 (idxFrom badR l 0)) ∧ Pure w w' := by
  obtain ⟨a, len, cap, rfl, hlen, _, hm, hc⟩ := hv
  have HL := Lib.hid hlen; clear hlen
  have HC := Lib.hid hc; clear hc
  go_enter Try.func71, Try.ntmps71
  go_wp2
  go_loopw [8] (fun i wr => ∃ k : Nat, k ≤ len ∧ i = .int .i64 k ∧ Hid (idxFrom badR l 0 = idxFrom badR (l.drop k) k) ∧ Pure w wr) (fun i _ => len - (intOf i).toNat)
  case atStart => exact ⟨0, Nat.zero_le _, rfl, Lib.hid (by simp), Only.refl _ _⟩
  case round =>
    obtain ⟨k, hk, rfl, hI, hP⟩ := hrel
    by_cases hlt : k < len
    · obtain ⟨b, off, rfl, _, hcell, hcell2⟩ := HC.out k hlt
      have h0 := hP.cell hcell (fun f => f)
      have h1 := hP.cell hcell2 (fun f => f)
      clear hcell hcell2
      have hstep := Lib.hid (idx_step badR l k (l[k]?.getD (0, 0)) (by rw [List.getElem?_eq_getElem (by rw [← HL.out]; exact hlt)]; rfl))
      cases hx : badR ((l[k]?.getD (0, 0)).1, (l[k]?.getD (0, 0)).2) with
      | true =>
        have HX := Lib.hid hx
        go_wp2_with fail
        refine (bad_any _ _ _).mono ?_
        rintro e w2 ⟨rfl, hP2⟩
        go_wp2
        go_ret
        exact ⟨by rw [hI.out, hstep.out]; rw [if_pos HX.out]; rfl, hP.trans hP2⟩
      | false =>
        have HX := Lib.hid hx
        go_wp2_with fail
        refine (bad_any _ _ _).mono ?_
        rintro e w2 ⟨rfl, hP2⟩
        go_wp2
        go_roundw
        case rel => exact ⟨k + 1, by omega, by go_num, Lib.hid (by rw [hI.out, hstep.out]; rw [if_neg (by rw [HX.out]; simp)]), hP.trans hP2⟩
        case measure => simp [intOf]; omega
    · go_wp2
      go_ret
      have hk' : l.drop k = [] := List.drop_eq_nil_of_le (by rw [← HL.out]; omega)
      exact ⟨by rw [hI.out, hk']; rfl, hP⟩

set_option maxHeartbeats 400000 in
theorem contains_bad (D : Nat → Prop) (v : Value) (l : List (Int × Int)) (w : World) (hv : Ranges D w v l) :
    Calls Try.prog 44 #[v, .func (.func 42) #[] #[]] w fun e w' => e = .returned (.bool (l.any badR)) ∧ Pure w w' := by
  have hx := idxFrom_ge badR l 0 (Int.le_refl _)
  go_enter Try.func44, Try.ntmps44
  go_wp2_with fail
  refine (index_bad D v l _ hv).mono ?_
  rintro e w' ⟨rfl, hP⟩
  have hd : decide (0 ≤ idxFrom badR l 0) = l.any badR := by rw [Bool.eq_iff_iff]; simpa using hx
  clear hx
  go_wp2
  go_ret
  exact ⟨by simp [← hd], hP⟩

/-- A pool, as a value. -/
def PoolAt (D : Nat → Prop) (w : World) (v : Value) (p : Pool) : Prop :=
  ∃ tk, v = .agg #[tk, .int .i64 p.per, .int .i64 p.pence, .int .i64 p.keep, .int .i64 p.step] ∧ Ranges D w tk p.tickets
theorem PoolAt.keep {D S : Nat → Prop} {w w' : World} {v : Value} {p : Pool} (h : PoolAt D w v p) (ho : Only S w w') (hd : ∀ k, D k → ¬ S k) : PoolAt D w' v p := by
  obtain ⟨tk, hv, hr⟩ := h; exact ⟨tk, hv, hr.keep ho hd⟩
theorem PoolAt.pure {D : Nat → Prop} {w w' : World} {v : Value} {p : Pool} (h : PoolAt D w v p) (ho : Pure w w') : PoolAt D w' v p := h.keep ho (fun _ _ f => f)

def wrongRules (p : Pool) : Bool := !withinB 1 10000 [p.per] || (!withinB 0 p.per [p.pence] || (!withinB 0 100000 [p.keep] || !withinB 1 100 [p.step]))
def checkPool (p : Pool) : Int := if withinB 2 8 [(p.tickets.length : Int)] = false then 6 else if wrongRules p then 3 else if p.tickets.any badR then 3 else 0

/-- The box in which a pool parameter lies. -/
def Box5 (b : Nat) (tk : Value) (p : Pool) (w : World) : Prop :=
  w.cell? ⟨b, 0, none⟩ = some tk ∧ w.cell? ⟨b, 1, none⟩ = some (.int .i64 p.per) ∧ w.cell? ⟨b, 2, none⟩ = some (.int .i64 p.pence) ∧ w.cell? ⟨b, 3, none⟩ = some (.int .i64 p.keep) ∧ w.cell? ⟨b, 4, none⟩ = some (.int .i64 p.step)
theorem Box5.pure {b : Nat} {tk : Value} {p : Pool} {w w' : World} (h : Box5 b tk p w) (ho : Pure w w') : Box5 b tk p w' :=
  ⟨ho.cell h.1 (fun f => f), ho.cell h.2.1 (fun f => f), ho.cell h.2.2.1 (fun f => f), ho.cell h.2.2.2.1 (fun f => f), ho.cell h.2.2.2.2 (fun f => f)⟩

set_option maxHeartbeats 1000000 in
theorem checkPool_any (D : Nat → Prop) (v : Value) (p : Pool) (w : World) (hv : PoolAt D w v p) :
    Calls Try.prog 7 #[v] w fun e w' => e = .returned (.int .i64 (checkPool p)) ∧ Pure w w' := by
  obtain ⟨tk, rfl, hr⟩ := hv
  have hR := hr
  obtain ⟨a, len, cap, rfl, hlen, _, hm, _⟩ := hr
  have B0 : Box5 w.heap.size (.slice a len cap) p (w.alloc (Obj.cells #[.slice a len cap, .int .i64 p.per, .int .i64 p.pence, .int .i64 p.keep, .int .i64 p.step] 24)) := by simp [Box5]
  have HL := Lib.hid hlen; clear hlen
  have hP0 : Pure w (w.alloc (Obj.cells #[.slice a len cap, .int .i64 p.per, .int .i64 p.pence, .int .i64 p.keep, .int .i64 p.step] 24)) := (Only.refl _ w).alloc _
  obtain ⟨tickets, per, pence, keep, step⟩ := p
  dsimp only at *
  cases h1 : withinB 2 8 [(len : Int)] with
  | false =>
    go_enter Try.func7, Try.ntmps7
    go_wp2_with fail
    refine (within_one _ _ (len : Int) _ _ (by simp)).mono ?_
    rintro e w1 ⟨rfl, P1⟩
    have B1 := B0.pure P1.of_alloc
    have Q1 := hP0.trans P1.of_alloc
    have D1 := B1; obtain ⟨d10, d11, d12, d13, d14⟩ := D1
    go_wp2_with fail
    go_ret
    exact ⟨by simp [checkPool, wrongRules, ← HL.out, h1], Q1⟩
  | true =>
    cases h2 : withinB 1 10000 [per] with
    | false =>
      go_enter Try.func7, Try.ntmps7
      go_wp2_with fail
      refine (within_one _ _ (len : Int) _ _ (by simp)).mono ?_
      rintro e w1 ⟨rfl, P1⟩
      have B1 := B0.pure P1.of_alloc
      have Q1 := hP0.trans P1.of_alloc
      have D1 := B1; obtain ⟨d10, d11, d12, d13, d14⟩ := D1
      go_wp2_with fail
      refine (within_one _ _ per _ _ (by simp)).mono ?_
      rintro e w2 ⟨rfl, P2⟩
      have B2 := B1.pure P2.of_alloc
      have Q2 := Q1.trans P2.of_alloc
      have D2 := B2; obtain ⟨d20, d21, d22, d23, d24⟩ := D2
      go_wp2_with fail
      go_ret
      exact ⟨by simp [checkPool, wrongRules, ← HL.out, h1, h2], Q2⟩
    | true =>
      cases h3 : withinB 0 per [pence] with
      | false =>
        go_enter Try.func7, Try.ntmps7
        go_wp2_with fail
        refine (within_one _ _ (len : Int) _ _ (by simp)).mono ?_
        rintro e w1 ⟨rfl, P1⟩
        have B1 := B0.pure P1.of_alloc
        have Q1 := hP0.trans P1.of_alloc
        have D1 := B1; obtain ⟨d10, d11, d12, d13, d14⟩ := D1
        go_wp2_with fail
        refine (within_one _ _ per _ _ (by simp)).mono ?_
        rintro e w2 ⟨rfl, P2⟩
        have B2 := B1.pure P2.of_alloc
        have Q2 := Q1.trans P2.of_alloc
        have D2 := B2; obtain ⟨d20, d21, d22, d23, d24⟩ := D2
        go_wp2_with fail
        refine (within_one _ _ pence _ _ (by simp)).mono ?_
        rintro e w3 ⟨rfl, P3⟩
        have B3 := B2.pure P3.of_alloc
        have Q3 := Q2.trans P3.of_alloc
        have D3 := B3; obtain ⟨d30, d31, d32, d33, d34⟩ := D3
        go_wp2_with fail
        go_ret
        exact ⟨by simp [checkPool, wrongRules, ← HL.out, h1, h2, h3], Q3⟩
      | true =>
        cases h4 : withinB 0 100000 [keep] with
        | false =>
          go_enter Try.func7, Try.ntmps7
          go_wp2_with fail
          refine (within_one _ _ (len : Int) _ _ (by simp)).mono ?_
          rintro e w1 ⟨rfl, P1⟩
          have B1 := B0.pure P1.of_alloc
          have Q1 := hP0.trans P1.of_alloc
          have D1 := B1; obtain ⟨d10, d11, d12, d13, d14⟩ := D1
          go_wp2_with fail
          refine (within_one _ _ per _ _ (by simp)).mono ?_
          rintro e w2 ⟨rfl, P2⟩
          have B2 := B1.pure P2.of_alloc
          have Q2 := Q1.trans P2.of_alloc
          have D2 := B2; obtain ⟨d20, d21, d22, d23, d24⟩ := D2
          go_wp2_with fail
          refine (within_one _ _ pence _ _ (by simp)).mono ?_
          rintro e w3 ⟨rfl, P3⟩
          have B3 := B2.pure P3.of_alloc
          have Q3 := Q2.trans P3.of_alloc
          have D3 := B3; obtain ⟨d30, d31, d32, d33, d34⟩ := D3
          go_wp2_with fail
          refine (within_one _ _ keep _ _ (by simp)).mono ?_
          rintro e w4 ⟨rfl, P4⟩
          have B4 := B3.pure P4.of_alloc
          have Q4 := Q3.trans P4.of_alloc
          have D4 := B4; obtain ⟨d40, d41, d42, d43, d44⟩ := D4
          go_wp2_with fail
          go_ret
          exact ⟨by simp [checkPool, wrongRules, ← HL.out, h1, h2, h3, h4], Q4⟩
        | true =>
          cases h5 : withinB 1 100 [step] with
          | false =>
            go_enter Try.func7, Try.ntmps7
            go_wp2_with fail
            refine (within_one _ _ (len : Int) _ _ (by simp)).mono ?_
            rintro e w1 ⟨rfl, P1⟩
            have B1 := B0.pure P1.of_alloc
            have Q1 := hP0.trans P1.of_alloc
            have D1 := B1; obtain ⟨d10, d11, d12, d13, d14⟩ := D1
            go_wp2_with fail
            refine (within_one _ _ per _ _ (by simp)).mono ?_
            rintro e w2 ⟨rfl, P2⟩
            have B2 := B1.pure P2.of_alloc
            have Q2 := Q1.trans P2.of_alloc
            have D2 := B2; obtain ⟨d20, d21, d22, d23, d24⟩ := D2
            go_wp2_with fail
            refine (within_one _ _ pence _ _ (by simp)).mono ?_
            rintro e w3 ⟨rfl, P3⟩
            have B3 := B2.pure P3.of_alloc
            have Q3 := Q2.trans P3.of_alloc
            have D3 := B3; obtain ⟨d30, d31, d32, d33, d34⟩ := D3
            go_wp2_with fail
            refine (within_one _ _ keep _ _ (by simp)).mono ?_
            rintro e w4 ⟨rfl, P4⟩
            have B4 := B3.pure P4.of_alloc
            have Q4 := Q3.trans P4.of_alloc
            have D4 := B4; obtain ⟨d40, d41, d42, d43, d44⟩ := D4
            go_wp2_with fail
            refine (within_one _ _ step _ _ (by simp)).mono ?_
            rintro e w5 ⟨rfl, P5⟩
            have B5 := B4.pure P5.of_alloc
            have Q5 := Q4.trans P5.of_alloc
            have D5 := B5; obtain ⟨d50, d51, d52, d53, d54⟩ := D5
            go_wp2_with fail
            go_ret
            exact ⟨by simp [checkPool, wrongRules, ← HL.out, h1, h2, h3, h4, h5], Q5⟩
          | true =>
            cases h6 : tickets.any badR with
            | true =>
              go_enter Try.func7, Try.ntmps7
              go_wp2_with fail
              refine (within_one _ _ (len : Int) _ _ (by simp)).mono ?_
              rintro e w1 ⟨rfl, P1⟩
              have B1 := B0.pure P1.of_alloc
              have Q1 := hP0.trans P1.of_alloc
              have D1 := B1; obtain ⟨d10, d11, d12, d13, d14⟩ := D1
              go_wp2_with fail
              refine (within_one _ _ per _ _ (by simp)).mono ?_
              rintro e w2 ⟨rfl, P2⟩
              have B2 := B1.pure P2.of_alloc
              have Q2 := Q1.trans P2.of_alloc
              have D2 := B2; obtain ⟨d20, d21, d22, d23, d24⟩ := D2
              go_wp2_with fail
              refine (within_one _ _ pence _ _ (by simp)).mono ?_
              rintro e w3 ⟨rfl, P3⟩
              have B3 := B2.pure P3.of_alloc
              have Q3 := Q2.trans P3.of_alloc
              have D3 := B3; obtain ⟨d30, d31, d32, d33, d34⟩ := D3
              go_wp2_with fail
              refine (within_one _ _ keep _ _ (by simp)).mono ?_
              rintro e w4 ⟨rfl, P4⟩
              have B4 := B3.pure P4.of_alloc
              have Q4 := Q3.trans P4.of_alloc
              have D4 := B4; obtain ⟨d40, d41, d42, d43, d44⟩ := D4
              go_wp2_with fail
              refine (within_one _ _ step _ _ (by simp)).mono ?_
              rintro e w5 ⟨rfl, P5⟩
              have B5 := B4.pure P5.of_alloc
              have Q5 := Q4.trans P5.of_alloc
              have D5 := B5; obtain ⟨d50, d51, d52, d53, d54⟩ := D5
              go_wp2_with fail
              refine (contains_bad D _ tickets _ (hR.pure Q5)).mono ?_
              rintro e w6 ⟨rfl, P6⟩
              go_wp2_with fail
              go_ret
              exact ⟨by simp [checkPool, wrongRules, ← HL.out, h1, h2, h3, h4, h5, h6], Q5.trans P6⟩
            | false =>
              go_enter Try.func7, Try.ntmps7
              go_wp2_with fail
              refine (within_one _ _ (len : Int) _ _ (by simp)).mono ?_
              rintro e w1 ⟨rfl, P1⟩
              have B1 := B0.pure P1.of_alloc
              have Q1 := hP0.trans P1.of_alloc
              have D1 := B1; obtain ⟨d10, d11, d12, d13, d14⟩ := D1
              go_wp2_with fail
              refine (within_one _ _ per _ _ (by simp)).mono ?_
              rintro e w2 ⟨rfl, P2⟩
              have B2 := B1.pure P2.of_alloc
              have Q2 := Q1.trans P2.of_alloc
              have D2 := B2; obtain ⟨d20, d21, d22, d23, d24⟩ := D2
              go_wp2_with fail
              refine (within_one _ _ pence _ _ (by simp)).mono ?_
              rintro e w3 ⟨rfl, P3⟩
              have B3 := B2.pure P3.of_alloc
              have Q3 := Q2.trans P3.of_alloc
              have D3 := B3; obtain ⟨d30, d31, d32, d33, d34⟩ := D3
              go_wp2_with fail
              refine (within_one _ _ keep _ _ (by simp)).mono ?_
              rintro e w4 ⟨rfl, P4⟩
              have B4 := B3.pure P4.of_alloc
              have Q4 := Q3.trans P4.of_alloc
              have D4 := B4; obtain ⟨d40, d41, d42, d43, d44⟩ := D4
              go_wp2_with fail
              refine (within_one _ _ step _ _ (by simp)).mono ?_
              rintro e w5 ⟨rfl, P5⟩
              have B5 := B4.pure P5.of_alloc
              have Q5 := Q4.trans P5.of_alloc
              have D5 := B5; obtain ⟨d50, d51, d52, d53, d54⟩ := D5
              go_wp2_with fail
              refine (contains_bad D _ tickets _ (hR.pure Q5)).mono ?_
              rintro e w6 ⟨rfl, P6⟩
              go_wp2_with fail
              go_ret
              exact ⟨by simp [checkPool, wrongRules, ← HL.out, h1, h2, h3, h4, h5, h6], Q5.trans P6⟩

end Go.Proofs.Ytngkmfddamaegaa
