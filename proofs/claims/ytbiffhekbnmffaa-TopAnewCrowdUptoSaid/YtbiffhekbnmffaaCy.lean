/-
  The document's example: its hall; what the reference says of it.
-/
import Derived.Test.YtbiffhekbnmffaaCv
namespace Go.Proofs.Ytbiffhekbnmffaa
open Go.RowKit

def H5 : Hall := ⟨5, [⟨1, 2, 3⟩, ⟨1, 3, 3⟩, ⟨2, 2, 3⟩, ⟨4, 5, 4⟩, ⟨3, 3, 2⟩]⟩
theorem x1 : checkPlan H5 2 [2, 3, 2, 4, 0] = 0 := by decide +kernel
theorem x2 : checkPlan H5 2 [1, 3, 2, 4, 0] = 16 := by decide +kernel
theorem x3 : checkPlan H5 2 [3, 3, 3, 4, 0] = 23 := by decide +kernel
theorem x4 : machinesR H5 = (1, 2, 0) := by decide +kernel
theorem x5 : planR H5 2 = ([2, 3, 2, 4, 0], 0) := by decide +kernel
theorem x6 : planR H5 1 = ([], 23) := by decide +kernel
theorem x7 : boundR H5 2 3 = (2, 0) := by decide +kernel
theorem x8 : crowdR H5 = (2, 3, 0) := by decide +kernel
theorem x9 : serveR H5 1 [2, 3, 2, 4, 3] = ([2, 3, 0, 4, 0], 1, 0) := by decide +kernel
theorem x10 : lateR H5 2 0 = (3, 0) := by decide +kernel
theorem x11 : lateR H5 2 4 = (0, 16) := by decide +kernel
theorem x12 : roomR H5 2 3 = (1, 0) := by decide +kernel

def Tk (w : World) (x : Nat) : Prop := w.heap[x]? = some (.cells #[.int .i64 1, .int .i64 2, .int .i64 3, .int .i64 1, .int .i64 3, .int .i64 3, .int .i64 2, .int .i64 2, .int .i64 3, .int .i64 4, .int .i64 5, .int .i64 4, .int .i64 3, .int .i64 3, .int .i64 2] 64 (0, 0))
theorem Tk.pure {w w' : World} {x : Nat} (h : Tk w x) (hp : Pure w w') : Tk w' x := hp.heap h (fun f => f)
theorem Tk.people {w : World} {x : Nat} (h : Tk w x) : People (fun _ => True) w (.slice (some ⟨x, 0, none⟩) 5 5) H5.people := by
  refine ⟨_, 5, 5, rfl, rfl, Nat.le_refl _, by decide, fun i hi => ?_⟩
  rcases (by omega : i = 0 ∨ i = 1 ∨ i = 2 ∨ i = 3 ∨ i = 4) with rfl | rfl | rfl | rfl | rfl <;>
  exact ⟨x, 0, rfl, trivial, cell_of_row _ _ _ _ _ _ h, cell_of_row _ _ _ _ _ _ h, cell_of_row _ _ _ _ _ _ h⟩

theorem person_any (a b c : Int) (w : World) : Calls Try.prog 69 #[.int .i64 a, .int .i64 b, .int .i64 c] w fun e w' => e = .returned (.agg #[.int .i64 a, .int .i64 b, .int .i64 c]) ∧ Pure w w' := by
  have hk := World.alloc_heap_new w (.cells #[.int .i64 a, .int .i64 b, .int .i64 c] 64)
  have e0 := cell_of_row _ _ 0 _ _ _ hk
  have e1 := cell_of_row _ _ 1 _ _ _ hk
  have e2 := cell_of_row _ _ 2 _ _ _ hk
  simp at e0 e1 e2
  clear hk
  go_enter Try.func69, Try.ntmps69
  go_wp2
  refine bodyPost_ret (v := .agg #[.int .i64 a, .int .i64 b, .int .i64 c]) ?_ rfl ⟨rfl, (Only.refl _ w).alloc _⟩
  simp [results, Try.f69, go_sem, e0, e1, e2]

set_option maxHeartbeats 1000000 in
set_option maxRecDepth 100000 in
theorem Hall_any (w : World) : Calls Try.prog 54 #[] w fun e w' => ∃ x, e = .returned (.agg #[.int .i64 5, .slice (some ⟨x, 0, none⟩) 5 5]) ∧ Tk w' x ∧ Pure w w' := by
  have hP0 : Pure w (w.alloc (.cells #[.int .i64 0, .slice none 0 0] 24)) := (Only.refl _ w).alloc _
  have hk0 := World.alloc_heap_new w (.cells #[.int .i64 0, .slice none 0 0] 24)
  have HP0 := Lib.hid hP0; have HK0 := Lib.hid hk0; clear hP0 hk0
  go_enter Try.func54, Try.ntmps54
  go_wp2_with fail
  refine (person_any 1 2 3 _).mono ?_
  rintro e w1 ⟨rfl, P1⟩
  have Q1 := Lib.hid P1; clear P1
  go_wp2_with fail
  refine (person_any 1 3 3 _).mono ?_
  rintro e w2 ⟨rfl, P2⟩
  have Q2 := Lib.hid (Q1.out.trans P2); clear P2
  go_wp2_with fail
  refine (person_any 2 2 3 _).mono ?_
  rintro e w3 ⟨rfl, P3⟩
  have Q3 := Lib.hid (Q2.out.trans P3); clear P3
  go_wp2_with fail
  refine (person_any 4 5 4 _).mono ?_
  rintro e w4 ⟨rfl, P4⟩
  have Q4 := Lib.hid (Q3.out.trans P4); clear P4
  go_wp2_with fail
  refine (person_any 3 3 2 _).mono ?_
  rintro e w5 ⟨rfl, P5⟩
  have Q5 := Lib.hid (Q4.out.trans P5); clear P5
  have hk2 := Q5.out.heap HK0.out (fun f => f)
  have QQ := Lib.hid (HP0.out.trans Q5.out)
  have hlt := lt_of_block hk2
  have s1 := heap_setCell_same _ _ 0 _ _ (.int .i64 5) hk2
  have s2 := heap_setCell_same _ _ 1 _ _ (.slice (some ⟨w5.heap.size, 0, none⟩) 5 5) s1
  have hx := World.alloc_heap_new ((w5.setCell ⟨w.heap.size, 0, none⟩ (.int .i64 5)).setCell ⟨w.heap.size, 1, none⟩ (.slice (some ⟨w5.heap.size, 0, none⟩) 5 5)) (.cells #[.int .i64 1, .int .i64 2, .int .i64 3, .int .i64 1, .int .i64 3, .int .i64 3, .int .i64 2, .int .i64 2, .int .i64 3, .int .i64 4, .int .i64 5, .int .i64 4, .int .i64 3, .int .i64 3, .int .i64 2] 64)
  replace s2 := (Below.heap_alloc _ (.cells #[.int .i64 1, .int .i64 2, .int .i64 3, .int .i64 1, .int .i64 3, .int .i64 3, .int .i64 2, .int .i64 2, .int .i64 3, .int .i64 4, .int .i64 5, .int .i64 4, .int .i64 3, .int .i64 3, .int .i64 2] 64) _ (lt_of_block s2)).trans s2
  simp only [World.size_setCell] at hx
  have S := Lib.hid s2
  have HX := Lib.hid hx; have HLT := Lib.hid hlt
  have k0 : w5.cell? ⟨w.heap.size, 0, none⟩ = some (.int .i64 0) := cell_of_row _ _ _ _ _ _ hk2
  have k1 : w5.cell? ⟨w.heap.size, 1, none⟩ = some (.slice none 0 0) := cell_of_row _ _ _ _ _ _ hk2
  have fr : ∀ j, w5.frozen? ⟨w.heap.size, j, none⟩ = false := fun j => arr_frozen hk2 j
  clear s1 s2 hk2 hx
  go_wp2
  have e0 := cell_of_row _ _ 0 _ _ _ S.out
  have e1 := cell_of_row _ _ 1 _ _ _ S.out
  simp only [List.setIfInBounds_toArray, List.set_cons_zero, List.set_cons_succ, List.getElem?_toArray, List.getElem?_cons_zero, List.getElem?_cons_succ] at e0 e1
  refine bodyPost_ret (v := .agg #[.int .i64 5, .slice (some ⟨w5.heap.size, 0, none⟩) 5 5]) ?_ rfl ⟨_, rfl, ?_, ?_⟩
  · simp [results, Try.f54, go_sem, e0, e1]
  · exact HX.out
  · exact (Only.setCell (Only.setCell QQ.out (.inr (Nat.le_refl _)) _) (.inr (Nat.le_refl _)) _).alloc _

theorem ints_rows {w : World} {g c : Nat} {l : List Int} (h : Ints (fun _ => True) w (.slice (some ⟨g, 0, none⟩) l.length c) l) (i : Nat) (hi : i < l.length) : w.cell? ⟨g, 0 + i, none⟩ = some (.int .i64 (l[i]?.getD 0)) := by
  obtain ⟨a, n, c', he, hl, _, _, h⟩ := h
  simp only [Value.slice.injEq] at he
  obtain ⟨rfl, rfl, rfl⟩ := he
  obtain ⟨b, off, hb, _, h0⟩ := h i hi
  simp only [Option.some.injEq, Addr.mk.injEq, and_true] at hb
  obtain ⟨rfl, rfl⟩ := hb
  exact h0

/-- The document's comparison of two lists, at two lists of like numbers. -/
theorem longs_any (D D' : Nat → Prop) (v u : Value) (l : List Int) (w : World) (hv : Ints D w v l) (hu : Ints D' w u l) :
    Calls Try.prog 56 #[v, u] w fun e w' => e = .returned (.bool true) ∧ Pure w w' := by
  obtain ⟨a, n, c, rfl, hn, _, hm, h⟩ := hv
  obtain ⟨a', n', c', rfl, hn', _, hm', h'⟩ := hu
  obtain rfl : n = n' := by omega
  have HC := Lib.hid h; have HC' := Lib.hid h'
  clear h h' hn hn'
  go_enter Try.func56, Try.ntmps56
  go_wp2_with fail
  go_loopw [5] (fun i wr => ∃ k : Nat, k ≤ n ∧ i = .int .i64 k ∧ Pure w wr) (fun i _ => n - (intOf i).toNat)
  case atStart => exact ⟨0, Nat.zero_le _, rfl, Only.refl _ _⟩
  case round =>
    obtain ⟨k, hk, rfl, hP⟩ := hrel
    by_cases hlt : k < n
    · obtain ⟨g, off, rfl, _, c0⟩ := HC.out k hlt
      obtain ⟨g2, off2, rfl, _, c1⟩ := HC'.out k hlt
      have k0 := hP.cell c0 (fun f => f)
      have k1 := hP.cell c1 (fun f => f)
      obtain ⟨x, hx⟩ : ∃ x, l[k]?.getD 0 = x := ⟨_, rfl⟩
      rw [hx] at k0 k1
      have HP := Lib.hid hP
      clear c0 c1 hx hP
      go_wp2_with fail
      go_region
      go_wp2
      go_roundw
      case rel => exact ⟨k + 1, by omega, by go_num, HP.out.drew⟩
      case measure => simp [intOf]; omega
    · have HP := Lib.hid hP
      clear hP
      go_wp2
      go_ret
      exact ⟨rfl, HP.out⟩
end Go.Proofs.Ytbiffhekbnmffaa
