/-
  The document's reference, at its example.
-/
import Derived.Test.YtbiffhekbnmffaaCy
namespace Go.Proofs.Ytbiffhekbnmffaa
open Go.RowKit

theorem isMinute_any (m : Int) (v : Value) (w : World) (h0 : 1 ≤ m) (h1 : m ≤ 5) : Calls Try.prog 82 #[.agg #[.int .i64 5, v], .int .i64 m] w fun e w' => e = .returned (.bool true) ∧ Pure w w' := by
  go_enter Try.func82, Try.ntmps82
  go_wp2
  go_ret
  exact ⟨rfl, (Only.refl _ w).alloc _⟩
theorem can_any (lo hi til : Int) (w : World) : Calls Try.prog 71 #[.agg #[.int .i64 lo, .int .i64 hi, .int .i64 til]] w fun e w' => e = .returned (.bool (decide (lo ≤ til))) ∧ Pure w w' := by
  go_enter Try.func71, Try.ntmps71
  go_wp2
  go_ret
  exact ⟨rfl, (Only.refl _ w).alloc _⟩
theorem last_any (lo hi til : Int) (w : World) : Calls Try.prog 72 #[.agg #[.int .i64 lo, .int .i64 hi, .int .i64 til]] w fun e w' => e = .returned (.int .i64 (min hi til)) ∧ Pure w w' := by
  by_cases h : hi ≤ til
  · have e : min hi til = hi := by omega
    rw [e]
    go_enter Try.func72, Try.ntmps72
    go_wp2
    go_ret
    exact ⟨by first | rfl | (congr 2; omega), (Only.refl _ w).alloc _⟩
  · have e : min hi til = til := by omega
    rw [e]
    go_enter Try.func72, Try.ntmps72
    go_wp2
    go_ret
    exact ⟨by first | rfl | (congr 2; omega), (Only.refl _ w).alloc _⟩

theorem Tk.cells {w : World} {x : Nat} (h : Tk w x) : (w.cell? ⟨x, 0, none⟩ = some (.int .i64 1) ∧ w.cell? ⟨x, 1, none⟩ = some (.int .i64 2) ∧ w.cell? ⟨x, 2, none⟩ = some (.int .i64 3)) ∧ (w.cell? ⟨x, 3, none⟩ = some (.int .i64 1) ∧ w.cell? ⟨x, 4, none⟩ = some (.int .i64 3) ∧ w.cell? ⟨x, 5, none⟩ = some (.int .i64 3)) ∧
    (w.cell? ⟨x, 6, none⟩ = some (.int .i64 2) ∧ w.cell? ⟨x, 7, none⟩ = some (.int .i64 2) ∧ w.cell? ⟨x, 8, none⟩ = some (.int .i64 3)) ∧ (w.cell? ⟨x, 9, none⟩ = some (.int .i64 4) ∧ w.cell? ⟨x, 10, none⟩ = some (.int .i64 5) ∧ w.cell? ⟨x, 11, none⟩ = some (.int .i64 4)) ∧ (w.cell? ⟨x, 12, none⟩ = some (.int .i64 3) ∧ w.cell? ⟨x, 13, none⟩ = some (.int .i64 3) ∧ w.cell? ⟨x, 14, none⟩ = some (.int .i64 2)) :=
  ⟨⟨cell_of_row _ _ _ _ _ _ h, cell_of_row _ _ _ _ _ _ h, cell_of_row _ _ _ _ _ _ h⟩, ⟨cell_of_row _ _ _ _ _ _ h, cell_of_row _ _ _ _ _ _ h, cell_of_row _ _ _ _ _ _ h⟩, ⟨cell_of_row _ _ _ _ _ _ h, cell_of_row _ _ _ _ _ _ h, cell_of_row _ _ _ _ _ _ h⟩, ⟨cell_of_row _ _ _ _ _ _ h, cell_of_row _ _ _ _ _ _ h, cell_of_row _ _ _ _ _ _ h⟩, cell_of_row _ _ _ _ _ _ h, cell_of_row _ _ _ _ _ _ h, cell_of_row _ _ _ _ _ _ h⟩

/-- A person of the example lies at a place of its row, within the hall's minutes. -/
def At5 (w : World) (x k : Nat) (lo hi til : Int) : Prop := w.cell? ⟨x, k * 3, none⟩ = some (.int .i64 lo) ∧ w.cell? ⟨x, k * 3 + 1, none⟩ = some (.int .i64 hi) ∧ w.cell? ⟨x, k * 3 + 2, none⟩ = some (.int .i64 til)
theorem at5 {w : World} {x k : Nat} (h : Tk w x) (hk : k < 5) : ∃ lo hi til, At5 w x k lo hi til ∧ 1 ≤ lo ∧ lo ≤ hi ∧ hi ≤ 5 ∧ 1 ≤ til ∧ til ≤ 5 := by
  obtain ⟨h0, h1, h2, h3, h4⟩ := h.cells
  rcases (by omega : k = 0 ∨ k = 1 ∨ k = 2 ∨ k = 3 ∨ k = 4) with rfl | rfl | rfl | rfl | rfl
  · exact ⟨1, 2, 3, h0, by decide, by decide, by decide, by decide, by decide⟩
  · exact ⟨1, 3, 3, h1, by decide, by decide, by decide, by decide, by decide⟩
  · exact ⟨2, 2, 3, h2, by decide, by decide, by decide, by decide, by decide⟩
  · exact ⟨4, 5, 4, h3, by decide, by decide, by decide, by decide, by decide⟩
  · exact ⟨3, 3, 2, h4, by decide, by decide, by decide, by decide, by decide⟩

set_option maxHeartbeats 1000000 in
set_option maxRecDepth 100000 in
theorem refHall_any (x : Nat) (w : World) (hT : Tk w x) : Calls Try.prog 81 #[.agg #[.int .i64 5, .slice (some ⟨x, 0, none⟩) 5 5]] w fun e w' => e = .returned (.int .i64 0) ∧ Pure w w' := by
  have HT := Lib.hid hT; clear hT
  go_enter Try.func81, Try.ntmps81
  go_wp2_with fail
  go_loopw [3] (fun i wr => ∃ k : Nat, k ≤ 5 ∧ i = .int .i64 k ∧ Pure (w.alloc (Obj.cells #[.int .i64 5, .slice (some ⟨x, 0, none⟩) 5 5] 24)) wr) (fun i _ => 5 - (intOf i).toNat)
  case atStart => exact ⟨0, by omega, rfl, Only.refl _ _⟩
  case round =>
    obtain ⟨k, hk, rfl, hP⟩ := hrel
    have hb := hP.heap (World.alloc_heap_new w (Obj.cells #[.int .i64 5, .slice (some ⟨x, 0, none⟩) 5 5] 24)) (fun f => f)
    have b0 : wr.cell? ⟨w.heap.size, 0, none⟩ = some (.int .i64 5) := cell_of_row _ _ _ _ _ _ hb
    have b1 : wr.cell? ⟨w.heap.size, 1, none⟩ = some (.slice (some ⟨x, 0, none⟩) 5 5) := cell_of_row _ _ _ _ _ _ hb
    have hlw := lt_of_block hb
    clear hb
    by_cases hlt : k < 5
    · obtain ⟨lo, hi, til, ⟨c0, c1, c2⟩, q0, q1, q2, q3, q4⟩ := at5 (HT.out.pure (((Only.refl (fun _ => False) w).alloc (Obj.cells #[.int .i64 5, .slice (some ⟨x, 0, none⟩) 5 5] 24)).trans hP)) hlt
      have HP := Lib.hid (hP.alloc (.cells #[.int .i64 lo, .int .i64 hi, .int .i64 til] 64))
      have hbx := World.alloc_heap_new wr (.cells #[.int .i64 lo, .int .i64 hi, .int .i64 til] 64)
      have HBX := Lib.hid hbx
      have d0 := ((Only.refl (fun _ => False) wr).alloc (.cells #[.int .i64 lo, .int .i64 hi, .int .i64 til] 64)).cell b0 (fun f => f)
      have d1 := ((Only.refl (fun _ => False) wr).alloc (.cells #[.int .i64 lo, .int .i64 hi, .int .i64 til] 64)).cell b1 (fun f => f)
      have D0 := Lib.hid d0; have D1 := Lib.hid d1
      clear hP hbx d0 d1
      go_wp2_with fail
      refine (isMinute_any lo _ _ q0 (by omega)).mono ?_
      rintro e w1 ⟨rfl, P1⟩
      have a0 := P1.cell D0.out (fun f => f)
      have a1 := P1.cell D1.out (fun f => f)
      have hb1 := P1.heap HBX.out (fun f => f)
      have e0 : w1.cell? ⟨wr.heap.size, 0, none⟩ = some (.int .i64 lo) := cell_of_row _ _ _ _ _ _ hb1
      have e1 : w1.cell? ⟨wr.heap.size, 1, none⟩ = some (.int .i64 hi) := cell_of_row _ _ _ _ _ _ hb1
      have e2 : w1.cell? ⟨wr.heap.size, 2, none⟩ = some (.int .i64 til) := cell_of_row _ _ _ _ _ _ hb1
      have HP1 := Lib.hid P1
      clear P1 hb1 b0 b1 c0 c1 c2
      go_wp2_with fail
      refine (isMinute_any hi _ _ (by omega) q2).mono ?_
      rintro e w2 ⟨rfl, P2⟩
      have a0' := P2.cell a0 (fun f => f)
      have a1' := P2.cell a1 (fun f => f)
      have e0' := P2.cell e0 (fun f => f)
      have e1' := P2.cell e1 (fun f => f)
      have e2' := P2.cell e2 (fun f => f)
      have HP2 := Lib.hid (HP1.out.trans P2)
      clear P2 a0 a1 e0 e1 e2
      go_wp2_with fail
      refine (isMinute_any til _ _ q3 q4).mono ?_
      rintro e w3 ⟨rfl, P3⟩
      have HP3 := Lib.hid (HP2.out.trans P3)
      clear P3
      go_wp2
      go_roundw
      case rel => exact ⟨k + 1, by omega, by go_num, HP.out.trans HP3.out⟩
      case measure => simp [intOf]; omega
    · have HP := Lib.hid hP
      clear hP
      go_wp2
      go_ret
      exact ⟨rfl, ((Only.refl _ w).alloc _).trans HP.out⟩

set_option maxHeartbeats 1000000 in
theorem asked_any (x : Nat) (w : World) (hT : Tk w x) : Calls Try.prog 70 #[.agg #[.int .i64 5, .slice (some ⟨x, 0, none⟩) 5 5], .int .i64 2] w fun e w' => e = .returned (.int .i64 0) ∧ Pure w w' := by
  have hC := refHall_any x (w.alloc (Obj.cells #[.int .i64 5, .slice (some ⟨x, 0, none⟩) 5 5] 24)) (hT.pure ((Only.refl _ _).alloc _))
  go_enter Try.func70, Try.ntmps70
  go_wp2_with fail
  refine hC.mono ?_
  rintro e w1 ⟨rfl, P1⟩
  have HP := Lib.hid (((Only.refl (fun _ => False) w).alloc (Obj.cells #[.int .i64 5, .slice (some ⟨x, 0, none⟩) 5 5] 24)).trans P1)
  clear hC P1 hT
  go_wp2
  go_ret
  exact ⟨rfl, HP.out⟩
end Go.Proofs.Ytbiffhekbnmffaa
