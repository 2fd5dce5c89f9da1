/-
  Numbers within bounds.
-/
import Derived.Test.YtcephfmafmmilaaHeap
namespace Go.Proofs.Ytcephfmafmmilaa
open Go.RowKit

abbrev Pure (w w' : World) : Prop := Only (fun _ => False) w w'

/-- A slice of numbers, read. -/
def Ints (D : Nat → Prop) (w : World) (v : Value) (l : List Int) : Prop :=
  ∃ a len cap, v = .slice a len cap ∧ len = l.length ∧ len ≤ cap ∧ len ≤ 9223372036854775807 ∧ ∀ i, i < len → ∃ b off, a = some ⟨b, off, none⟩ ∧ D b ∧ w.cell? ⟨b, off + i, none⟩ = some (.int .i64 (l[i]?.getD 0))

theorem Ints.keep {D S : Nat → Prop} {w w' : World} {v : Value} {l : List Int} (h : Ints D w v l) (ho : Only S w w') (hd : ∀ k, D k → ¬ S k) : Ints D w' v l := by
  obtain ⟨a, len, cap, hv, hl, hc, hm, h⟩ := h
  refine ⟨a, len, cap, hv, hl, hc, hm, fun i hi => ?_⟩
  obtain ⟨b, off, ha, hD, hcell⟩ := h i hi
  exact ⟨b, off, ha, hD, ho.cell hcell (hd b hD)⟩
theorem Ints.pure {D : Nat → Prop} {w w' : World} {v : Value} {l : List Int} (h : Ints D w v l) (ho : Pure w w') : Ints D w' v l := h.keep ho (fun _ _ f => f)

def outB (lo hi n : Int) : Bool := decide (n < lo) || decide (hi < n)
def withinB (lo hi : Int) (l : List Int) : Bool := !l.any (outB lo hi)
/-- The first index at which p holds, from i on; -1 if it holds nowhere. -/
def idxFrom {α : Type} (p : α → Bool) : List α → Int → Int
  | [], _ => -1
  | x :: r, i => if p x then i else idxFrom p r (i + 1)
theorem idxFrom_ge {α : Type} (p : α → Bool) (l : List α) : ∀ i : Int, 0 ≤ i → (0 ≤ idxFrom p l i ↔ l.any p = true) := by
  induction l with
  | nil => intro i hi; simp [idxFrom]
  | cons x r ih =>
    intro i hi
    by_cases hx : p x = true
    · simp [idxFrom, hx, hi]
    · simp only [idxFrom, hx, if_false, Bool.false_eq_true, List.any_cons, Bool.false_or]
      exact ih (i + 1) (by omega)
theorem idx_step {α : Type} (p : α → Bool) (l : List α) (i : Nat) (x : α) (h : l[i]? = some x) : idxFrom p (l.drop i) i = if p x then (i : Int) else idxFrom p (l.drop (i + 1)) ((i + 1 : Nat) : Int) := by
  obtain ⟨hlt, rfl⟩ := List.getElem?_eq_some_iff.1 h
  rw [List.drop_eq_getElem_cons hlt]; simp [idxFrom]

set_option maxHeartbeats 400000 in
theorem out_any (B0 B1 : Nat) (n lo hi : Int) (w : World) (h0 : w.cell? ⟨B0, 0, none⟩ = some (.int .i64 lo)) (h1 : w.cell? ⟨B1, 0, none⟩ = some (.int .i64 hi)) :
    Calls Try.prog 69 #[.int .i64 n, .pointer (some ⟨B0, 0, none⟩), .pointer (some ⟨B1, 0, none⟩)] w fun e w' => e = .returned (.bool (outB lo hi n)) ∧ w = w' := by
  by_cases c1 : n < lo
  · go_enter Try.func69, Try.ntmps69
    go_wp2
    go_ret
    exact ⟨by simp [outB, c1], rfl⟩
  · have hf : decide (n < lo) = false := by simpa using c1
    go_enter Try.func69, Try.ntmps69
    go_wp2
    go_ret
    exact ⟨by simp [outB, hf], rfl⟩

set_option maxHeartbeats 400000 in
theorem index_within (D : Nat → Prop) (B0 B1 : Nat) (lo hi : Int) (v : Value) (l : List Int) (w : World) (h0 : w.cell? ⟨B0, 0, none⟩ = some (.int .i64 lo)) (h1 : w.cell? ⟨B1, 0, none⟩ = some (.int .i64 hi)) (hv : Ints D w v l) :
    Calls Try.prog 80 #[v, .func (.func 69) #[] #[.pointer (some ⟨B0, 0, none⟩), .pointer (some ⟨B1, 0, none⟩)]] w fun e w' => e = .returned (.int .i64 (idxFrom (outB lo hi) l 0)) ∧ w = w' := by
  obtain ⟨a, len, cap, rfl, hlen, _, hm, hc⟩ := hv
  have HL := Lib.hid hlen; clear hlen
  have HC := Lib.hid hc; clear hc
  go_enter Try.func80, Try.ntmps80
  go_wp2
  go_loop [8] (fun i => ∃ k : Nat, k ≤ len ∧ i = .int .i64 k ∧ Hid (idxFrom (outB lo hi) l 0 = idxFrom (outB lo hi) (l.drop k) k)) (fun i => len - (intOf i).toNat)
  case atStart => exact ⟨0, Nat.zero_le _, rfl, Lib.hid (by simp)⟩
  case round =>
    obtain ⟨k, hk, rfl, hI⟩ := hrel
    by_cases hlt : k < len
    · obtain ⟨b, off, rfl, _, hcell⟩ := HC.out k hlt
      have hstep := Lib.hid (idx_step (outB lo hi) l k (l[k]?.getD 0) (by rw [List.getElem?_eq_getElem (by rw [← HL.out]; exact hlt)]; rfl))
      cases hx : outB lo hi (l[k]?.getD 0) with
      | true =>
        go_wp2_with (go_at_call 69; refine (out_any B0 B1 _ lo hi _ h0 h1).mono ?_; rintro e w' ⟨rfl, rfl⟩)
        go_ret
        exact ⟨by rw [hI.out, hstep.out, hx]; rfl, rfl⟩
      | false =>
        go_wp2_with (go_at_call 69; refine (out_any B0 B1 _ lo hi _ h0 h1).mono ?_; rintro e w' ⟨rfl, rfl⟩)
        go_round
        case rel => exact ⟨k + 1, by omega, by go_num, Lib.hid (by rw [hI.out, hstep.out, hx]; rfl)⟩
        case measure => simp [intOf]; omega
    · go_wp2
      go_ret
      have hk' : l.drop k = [] := List.drop_eq_nil_of_le (by rw [← HL.out]; omega)
      exact ⟨by rw [hI.out, hk']; rfl, rfl⟩

set_option maxHeartbeats 400000 in
theorem contains_within (D : Nat → Prop) (B0 B1 : Nat) (lo hi : Int) (v : Value) (l : List Int) (w : World) (h0 : w.cell? ⟨B0, 0, none⟩ = some (.int .i64 lo)) (h1 : w.cell? ⟨B1, 0, none⟩ = some (.int .i64 hi)) (hv : Ints D w v l) :
    Calls Try.prog 68 #[v, .func (.func 69) #[] #[.pointer (some ⟨B0, 0, none⟩), .pointer (some ⟨B1, 0, none⟩)]] w fun e w' => e = .returned (.bool (l.any (outB lo hi))) ∧ w = w' := by
  have hx := idxFrom_ge (outB lo hi) l 0 (Int.le_refl _)
  go_enter Try.func68, Try.ntmps68
  go_wp2_with fail
  refine (index_within D B0 B1 lo hi v l _ h0 h1 hv).mono ?_
  rintro e w' ⟨rfl, rfl⟩
  have hd : decide (0 ≤ idxFrom (outB lo hi) l 0) = l.any (outB lo hi) := by rw [Bool.eq_iff_iff]; simpa using hx
  clear hx
  go_wp2
  go_ret
  exact ⟨by simp [← hd], rfl⟩

theorem Only.of_alloc {S : Nat → Prop} {w w' : World} {o : Obj} (h : Only S (w.alloc o) w') : Only S w w' :=
  ((Only.refl (fun _ => False) w).alloc o |>.mono (S' := S) (fun _ _ f => f.elim)).trans' h (fun _ _ x => x)

set_option maxHeartbeats 400000 in
theorem within_any (D : Nat → Prop) (lo hi : Int) (v : Value) (l : List Int) (w : World) (hv : Ints D w v l) :
    Calls Try.prog 44 #[.int .i64 lo, .int .i64 hi, v] w fun e w' => e = .returned (.bool (withinB lo hi l)) ∧ Pure w w' := by
  have hP : Pure w ((w.alloc (Obj.cells #[Value.int IntKind.i64 lo] 2)).alloc (Obj.cells #[Value.int IntKind.i64 hi] 2)) := ((Only.refl _ w).alloc _).alloc _
  go_enter Try.func44, Try.ntmps44
  go_wp2_with fail
  refine (contains_within D w.heap.size (w.heap.size + 1) lo hi v l _ ?_ ?_ (hv.pure hP)).mono ?_
  · rw [World.cell?_alloc_past _ _ _ (by simp)]; simp
  · simp
  rintro e w' ⟨rfl, rfl⟩
  go_wp2
  go_ret
  exact ⟨rfl, hP⟩

theorem ints1 {w : World} {b : Nat} {x : Int} (h : w.cell? ⟨b, 0, none⟩ = some (.int .i64 x)) : Ints (fun _ => True) w (.slice (some ⟨b, 0, none⟩) 1 1) [x] :=
  ⟨_, 1, 1, rfl, rfl, Nat.le_refl _, by omega, fun i hi => ⟨b, 0, rfl, trivial, by
    obtain rfl : i = 0 := by omega
    simpa using h⟩⟩
theorem ints2 {w : World} {b : Nat} {x y : Int} (h : w.cell? ⟨b, 0, none⟩ = some (.int .i64 x)) (h1 : w.cell? ⟨b, 1, none⟩ = some (.int .i64 y)) : Ints (fun _ => True) w (.slice (some ⟨b, 0, none⟩) 2 2) [x, y] :=
  ⟨_, 2, 2, rfl, rfl, Nat.le_refl _, by omega, fun i hi => ⟨b, 0, rfl, trivial, by
    rcases (by omega : i = 0 ∨ i = 1) with rfl | rfl
    · simpa using h
    · simpa using h1⟩⟩
theorem within_one (lo hi x : Int) (b : Nat) (w : World) (h : w.cell? ⟨b, 0, none⟩ = some (.int .i64 x)) :
    Calls Try.prog 44 #[.int .i64 lo, .int .i64 hi, .slice (some ⟨b, 0, none⟩) 1 1] w fun e w' => e = .returned (.bool (withinB lo hi [x])) ∧ Pure w w' := within_any _ lo hi _ _ w (ints1 h)
theorem within_two (lo hi x y : Int) (b : Nat) (w : World) (h : w.cell? ⟨b, 0, none⟩ = some (.int .i64 x)) (h1 : w.cell? ⟨b, 1, none⟩ = some (.int .i64 y)) :
    Calls Try.prog 44 #[.int .i64 lo, .int .i64 hi, .slice (some ⟨b, 0, none⟩) 2 2] w fun e w' => e = .returned (.bool (withinB lo hi [x, y])) ∧ Pure w w' := within_any _ lo hi _ _ w (ints2 h h1)

end Go.Proofs.Ytcephfmafmmilaa
