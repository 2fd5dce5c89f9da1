/-
  The examples' pools; the document's answers at them.
-/
import Derived.Test.YtngkmfddamaegaaPo
namespace Go.Proofs.Ytngkmfddamaegaa
open Go.RowKit

def P5 : Pool := ⟨[(3, 5), (10, 12)], 1000, 100, 0, 10⟩
def P8 : Pool := ⟨[(3, 8), (10, 12)], 1000, 100, 0, 10⟩
def Q5 : Pool := ⟨[(3, 5), (10, 12)], 1500, 400, 0, 10⟩
theorem e1 : netR Q5 [5, 10] = (1100, 0) := by decide +kernel
theorem e2 : leftR P5 [5, 10] 0 290 = (-50, 0) := by decide +kernel
theorem e3 : dividendR P5 0 = (280, 0) := by decide +kernel
theorem e4 : boardR P8 = ([210, 110], 0) := by decide +kernel
theorem e5 : spreadR P5 0 280 = (0, 560, 0) := by decide +kernel
theorem e6 : worstR P5 0 300 = ([5, 10], -100, 0) := by decide +kernel
theorem e7 : checkRefuteR P5 0 290 [5, 10] = 0 := by decide +kernel
theorem e8 : checkRefuteR P5 0 290 [4, 10] = 14 := by decide +kernel
theorem e9 : refuteR P5 0 290 = ([5, 10], 0) := by decide +kernel
theorem e10 : refuteR P5 0 280 = ([], 5) := by decide +kernel
theorem e11 : needR P5 0 300 = (100, 0) := by decide +kernel
theorem e12 : whenR [P8, P5] 0 250 = (1, 0) := by decide +kernel
theorem e13 : whenR [P8, P5] 0 300 = (0, 12) := by decide +kernel
theorem e14 : whenR [P5, P8] 0 10 = (0, 16) := by decide +kernel
theorem n5 : netW P5 15 = 1400 := by decide +kernel

/-- P5's value at a slice of its tickets. -/
def v5 (a : Option Addr) (c : Nat) : Value := .agg #[.slice a 2 c, .int .i64 1000, .int .i64 100, .int .i64 0, .int .i64 10]
theorem pool5 {D : Nat → Prop} {w : World} {v : Value} (h : PoolAt D w v P5) : ∃ b off c, v = v5 (some ⟨b, off, none⟩) c ∧ D b ∧ w.cell? ⟨b, off, none⟩ = some (.int .i64 3) ∧ w.cell? ⟨b, off + 1, none⟩ = some (.int .i64 5) ∧ w.cell? ⟨b, off + 2, none⟩ = some (.int .i64 10) ∧ w.cell? ⟨b, off + 3, none⟩ = some (.int .i64 12) := by
  obtain ⟨tk, rfl, a, len, c, rfl, hl, hc, hm, h⟩ := h
  obtain rfl : len = 2 := hl
  obtain ⟨b, off, rfl, hD, h0, h1⟩ := h 0 (by decide)
  obtain ⟨b', off', he, _, h2, h3⟩ := h 1 (by decide)
  simp only [Option.some.injEq, Addr.mk.injEq, and_true] at he
  obtain ⟨rfl, rfl⟩ := he
  exact ⟨b, off, c, rfl, hD, by simpa [P5] using h0, by simpa [P5] using h1, by simpa [P5] using h2, by simpa [P5, Nat.add_assoc] using h3⟩

set_option maxHeartbeats 1000000 in
set_option maxRecDepth 100000 in
theorem refPool_any (b off c : Nat) (w : World) (h0 : w.cell? ⟨b, off, none⟩ = some (.int .i64 3)) (h1 : w.cell? ⟨b, off + 1, none⟩ = some (.int .i64 5)) (h2 : w.cell? ⟨b, off + 2, none⟩ = some (.int .i64 10)) (h3 : w.cell? ⟨b, off + 3, none⟩ = some (.int .i64 12)) :
    Calls Try.prog 84 #[v5 (some ⟨b, off, none⟩) c] w fun e w' => e = .returned (.int .i64 0) ∧ Pure w w' := by
  unfold v5
  have hP0 : Pure w (w.alloc (Obj.cells #[.slice (some ⟨b, off, none⟩) 2 c, .int .i64 1000, .int .i64 100, .int .i64 0, .int .i64 10] 24)) := (Only.refl _ w).alloc _
  have HP0 := Lib.hid hP0; clear hP0
  go_enter Try.func84, Try.ntmps84
  go_wp2_with fail
  go_loopw [3] (fun i wr => (i = .int .i64 0 ∨ i = .int .i64 1 ∨ i = .int .i64 2) ∧ Pure (w.alloc (Obj.cells #[.slice (some ⟨b, off, none⟩) 2 c, .int .i64 1000, .int .i64 100, .int .i64 0, .int .i64 10] 24)) wr) (fun i _ => 2 - (intOf i).toNat)
  case atStart => exact ⟨.inl rfl, Only.refl _ _⟩
  case round =>
    obtain ⟨hi, hP⟩ := hrel
    have hx : ∀ {p : Addr} {v : Value}, w.cell? p = some v → wr.cell? p = some v := fun h => hP.cell (HP0.out.cell h (fun f => f)) (fun f => f)
    have c0 := hx h0; have c1 := hx h1; have c2 := hx h2; have c3 := hx h3
    have hb := World.alloc_heap_new w (Obj.cells #[.slice (some ⟨b, off, none⟩) 2 c, .int .i64 1000, .int .i64 100, .int .i64 0, .int .i64 10] 24)
    have b0 : wr.cell? ⟨w.heap.size, 0, none⟩ = some (.slice (some ⟨b, off, none⟩) 2 c) := cell_of_row _ _ _ _ _ _ (hP.heap hb (fun f => f))
    have HP := Lib.hid hP
    clear hP hx hb
    rcases hi with rfl | rfl | rfl
    · go_wp2
      go_roundw
      case rel => exact ⟨.inr (.inl rfl), HP.out.alloc _⟩
      case measure => simp [intOf]
    · go_wp2
      go_roundw
      case rel => exact ⟨.inr (.inr rfl), HP.out.alloc _⟩
      case measure => simp [intOf]
    · go_wp2
      go_ret
      exact ⟨rfl, HP0.out.trans HP.out⟩
set_option maxHeartbeats 1000000 in
set_option maxRecDepth 100000 in
theorem refDividend_any (a : Option Addr) (c : Nat) (n : Int) (w : World) (hn : 0 ≤ n) (hn2 : n ≤ 100000) (hm : n.tmod 10 = 0) :
    Calls Try.prog 85 #[v5 a c, .int .i64 n] w fun e w' => e = .returned (.bool true) ∧ Pure w w' := by
  unfold v5
  go_enter Try.func85, Try.ntmps85
  go_wp2
  go_ret
  exact ⟨rfl, (Only.refl _ w).alloc _⟩

set_option maxHeartbeats 1000000 in
set_option maxRecDepth 100000 in
theorem refAsked_any (b off c : Nat) (n : Int) (w : World) (hn : 0 ≤ n) (hn2 : n ≤ 100000) (hm : n.tmod 10 = 0) (h0 : w.cell? ⟨b, off, none⟩ = some (.int .i64 3)) (h1 : w.cell? ⟨b, off + 1, none⟩ = some (.int .i64 5)) (h2 : w.cell? ⟨b, off + 2, none⟩ = some (.int .i64 10)) (h3 : w.cell? ⟨b, off + 3, none⟩ = some (.int .i64 12)) :
    Calls Try.prog 81 #[v5 (some ⟨b, off, none⟩) c, .int .i64 0, .int .i64 n] w fun e w' => e = .returned (.int .i64 0) ∧ Pure w w' := by
  have hP0 : Pure w (w.alloc (Obj.cells #[.slice (some ⟨b, off, none⟩) 2 c, .int .i64 1000, .int .i64 100, .int .i64 0, .int .i64 10] 24)) := (Only.refl _ w).alloc _
  have hC := refPool_any b off c _ (hP0.cell h0 (fun f => f)) (hP0.cell h1 (fun f => f)) (hP0.cell h2 (fun f => f)) (hP0.cell h3 (fun f => f))
  have hb := World.alloc_heap_new w (Obj.cells #[.slice (some ⟨b, off, none⟩) 2 c, .int .i64 1000, .int .i64 100, .int .i64 0, .int .i64 10] 24)
  have HP0 := Lib.hid hP0; have HB := Lib.hid hb; clear hP0 hb
  unfold v5 at hC ⊢
  go_enter Try.func81, Try.ntmps81
  go_wp2_with fail
  refine hC.mono ?_
  rintro e w1 ⟨rfl, P1⟩
  have hb1 := P1.heap HB.out (fun f => f)
  have b0 : w1.cell? ⟨w.heap.size, 0, none⟩ = _ := cell_of_row _ _ _ _ _ _ hb1
  have b1 : w1.cell? ⟨w.heap.size, 1, none⟩ = _ := cell_of_row _ _ _ _ _ _ hb1
  have b2 : w1.cell? ⟨w.heap.size, 2, none⟩ = _ := cell_of_row _ _ _ _ _ _ hb1
  have b3 : w1.cell? ⟨w.heap.size, 3, none⟩ = _ := cell_of_row _ _ _ _ _ _ hb1
  have b4 : w1.cell? ⟨w.heap.size, 4, none⟩ = _ := cell_of_row _ _ _ _ _ _ hb1
  simp at b0 b1 b2 b3 b4
  have hD := refDividend_any (some ⟨b, off, none⟩) c n w1 hn hn2 hm
  unfold v5 at hD
  have Q1 := Lib.hid (HP0.out.trans P1)
  clear hC P1 hb1
  go_wp2_with fail
  refine hD.mono ?_
  rintro e w2 ⟨rfl, P2⟩
  go_wp2
  go_ret
  exact ⟨rfl, Q1.out.trans P2⟩

set_option maxHeartbeats 1000000 in
set_option maxRecDepth 100000 in
theorem refTruth_any (b off c tb toff tc : Nat) (x y : Int) (w : World) (hx0 : 3 ≤ x) (hx1 : x ≤ 5) (hy0 : 10 ≤ y) (hy1 : y ≤ 12) (h0 : w.cell? ⟨b, off, none⟩ = some (.int .i64 3)) (h1 : w.cell? ⟨b, off + 1, none⟩ = some (.int .i64 5)) (h2 : w.cell? ⟨b, off + 2, none⟩ = some (.int .i64 10)) (h3 : w.cell? ⟨b, off + 3, none⟩ = some (.int .i64 12))
    (t0 : w.cell? ⟨tb, toff, none⟩ = some (.int .i64 x)) (t1 : w.cell? ⟨tb, toff + 1, none⟩ = some (.int .i64 y)) :
    Calls Try.prog 82 #[v5 (some ⟨b, off, none⟩) c, .slice (some ⟨tb, toff, none⟩) 2 tc] w fun e w' => e = .returned (.int .i64 0) ∧ Pure w w' := by
  unfold v5
  have hP0 : Pure w (w.alloc (Obj.cells #[.slice (some ⟨b, off, none⟩) 2 c, .int .i64 1000, .int .i64 100, .int .i64 0, .int .i64 10] 24)) := (Only.refl _ w).alloc _
  have HP0 := Lib.hid hP0; clear hP0
  go_enter Try.func82, Try.ntmps82
  go_wp2_with fail
  go_loopw [5] (fun i wr => (i = .int .i64 0 ∨ i = .int .i64 1 ∨ i = .int .i64 2) ∧ Pure (w.alloc (Obj.cells #[.slice (some ⟨b, off, none⟩) 2 c, .int .i64 1000, .int .i64 100, .int .i64 0, .int .i64 10] 24)) wr) (fun i _ => 2 - (intOf i).toNat)
  case atStart => exact ⟨.inl rfl, Only.refl _ _⟩
  case round =>
    obtain ⟨hi, hP⟩ := hrel
    have hx : ∀ {p : Addr} {v : Value}, w.cell? p = some v → wr.cell? p = some v := fun h => hP.cell (HP0.out.cell h (fun f => f)) (fun f => f)
    have c0 := hx h0; have c1 := hx h1; have c2 := hx h2; have c3 := hx h3; have c4 := hx t0; have c5 := hx t1
    have hb := World.alloc_heap_new w (Obj.cells #[.slice (some ⟨b, off, none⟩) 2 c, .int .i64 1000, .int .i64 100, .int .i64 0, .int .i64 10] 24)
    have b0 : wr.cell? ⟨w.heap.size, 0, none⟩ = some (.slice (some ⟨b, off, none⟩) 2 c) := cell_of_row _ _ _ _ _ _ (hP.heap hb (fun f => f))
    have HP := Lib.hid hP
    clear hP hx hb
    rcases hi with rfl | rfl | rfl
    · have d1 : decide (x < 3) = false := decide_eq_false (by omega)
      have d2 : decide (5 < x) = false := decide_eq_false (by omega)
      go_wp2_with fail
      go_region
      go_wp2
      go_roundw
      case rel => exact ⟨.inr (.inl rfl), HP.out.drew⟩
      case measure => simp [intOf]
    · have d1 : decide (y < 10) = false := decide_eq_false (by omega)
      have d2 : decide (12 < y) = false := decide_eq_false (by omega)
      go_wp2_with fail
      go_region
      go_wp2
      go_roundw
      case rel => exact ⟨.inr (.inr rfl), HP.out.drew⟩
      case measure => simp [intOf]
    · go_wp2
      go_ret
      exact ⟨rfl, HP0.out.trans HP.out⟩
end Go.Proofs.Ytngkmfddamaegaa
