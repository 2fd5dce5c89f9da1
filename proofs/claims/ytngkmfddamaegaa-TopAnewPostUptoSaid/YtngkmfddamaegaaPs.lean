/-
  The examples: Works.
-/
import Derived.Test.YtngkmfddamaegaaPr
import Derived.Test.YtngkmfddamaegaaMixed
import Derived.Deep.Cut
namespace Go.Proofs.Ytngkmfddamaegaa
open Go.RowKit

/-- A pool of the examples, as a value: its tickets lie in block x. -/
def exV (x : Nat) (per pence : Int) : Value := .agg #[.slice (some ⟨x, 0, none⟩) 2 2, .int .i64 per, .int .i64 pence, .int .i64 0, .int .i64 10]
def exP (hi per pence : Int) : Pool := ⟨[(3, hi), (10, 12)], per, pence, 0, 10⟩
def Tk (w : World) (x : Nat) (hi : Int) : Prop := w.heap[x]? = some (.cells #[.int .i64 3, .int .i64 hi, .int .i64 10, .int .i64 12] 50 (0, 0))
theorem Tk.pure {w w' : World} {x : Nat} {hi : Int} (h : Tk w x hi) (hp : Pure w w') : Tk w' x hi := hp.heap h (fun f => f)
theorem Tk.pool {w : World} {x : Nat} {hi : Int} (h : Tk w x hi) (per pence : Int) : PoolAt (fun _ => True) w (exV x per pence) (exP hi per pence) := by
  refine ⟨_, rfl, _, 2, 2, rfl, rfl, Nat.le_refl _, by decide, fun i hi' => ⟨x, 0, rfl, trivial, ?_⟩⟩
  rcases (by omega : i = 0 ∨ i = 1) with rfl | rfl
  · exact ⟨cell_of_row _ _ _ _ _ _ h, cell_of_row _ _ _ _ _ _ h⟩
  · exact ⟨cell_of_row _ _ _ _ _ _ h, cell_of_row _ _ _ _ _ _ h⟩
/-- The box in which a pool of the examples lies. -/
def Bx (w : World) (b x : Nat) (per pence : Int) : Prop := w.heap[b]? = some (.cells #[.slice (some ⟨x, 0, none⟩) 2 2, .int .i64 per, .int .i64 pence, .int .i64 0, .int .i64 10] 24 (0, 0))
theorem Bx.pure {w w' : World} {b x : Nat} {per pence : Int} (h : Bx w b x per pence) (hp : Pure w w') : Bx w' b x per pence := hp.heap h (fun f => f)
theorem Bx.cells {w : World} {b x : Nat} {per pence : Int} (h : Bx w b x per pence) : w.cell? ⟨b, 0, none⟩ = some (.slice (some ⟨x, 0, none⟩) 2 2) ∧ w.cell? ⟨b, 1, none⟩ = some (.int .i64 per) ∧ w.cell? ⟨b, 2, none⟩ = some (.int .i64 pence) ∧ w.cell? ⟨b, 3, none⟩ = some (.int .i64 0) ∧ w.cell? ⟨b, 4, none⟩ = some (.int .i64 10) :=
  ⟨cell_of_row _ _ _ _ _ _ h, cell_of_row _ _ _ _ _ _ h, cell_of_row _ _ _ _ _ _ h, cell_of_row _ _ _ _ _ _ h, cell_of_row _ _ _ _ _ _ h⟩

set_option maxHeartbeats 1000000 in
set_option maxRecDepth 100000 in
theorem Pool_any (hi : Int) (w : World) : Calls Try.prog 61 #[.int .i64 hi] w fun e w' => ∃ x, e = .returned (exV x 1000 100) ∧ Tk w' x hi ∧ Pure w w' := by
  have hP0 : Pure w (w.alloc (.cells #[.slice none 0 0, .int .i64 0, .int .i64 0, .int .i64 0, .int .i64 0] 24)) := (Only.refl _ w).alloc _
  have hk0 := World.alloc_heap_new w (.cells #[.slice none 0 0, .int .i64 0, .int .i64 0, .int .i64 0, .int .i64 0] 24)
  have HP0 := Lib.hid hP0; have HK0 := Lib.hid hk0; clear hP0 hk0
  go_enter Try.func61, Try.ntmps61
  go_wp2_with fail
  refine (rg_any 3 hi _).mono ?_
  rintro e w1 ⟨rfl, P1⟩
  have Q1 := Lib.hid P1; clear P1
  go_wp2_with fail
  refine (rg_any 10 12 _).mono ?_
  rintro e w2 ⟨rfl, P2⟩
  have hk2 := (Q1.out.trans P2).heap HK0.out (fun f => f)
  have Q2 := Lib.hid (HP0.out.trans (Q1.out.trans P2))
  have hk3 := (Below.heap_alloc w2 (.cells #[.int .i64 3, .int .i64 hi, .int .i64 10, .int .i64 12] 50) _ (lt_of_block hk2)).trans hk2
  have hx := World.alloc_heap_new w2 (.cells #[.int .i64 3, .int .i64 hi, .int .i64 10, .int .i64 12] 50)
  have hlt := lt_of_block hk2
  have s1 := heap_setCell_same _ _ 0 _ _ (.slice (some ⟨w2.heap.size, 0, none⟩) 2 2) hk3
  have s2 := heap_setCell_same _ _ 1 _ _ (.int .i64 1000) s1
  have s3 := heap_setCell_same _ _ 2 _ _ (.int .i64 100) s2
  have s4 := heap_setCell_same _ _ 3 _ _ (.int .i64 0) s3
  have s5 := heap_setCell_same _ _ 4 _ _ (.int .i64 10) s4
  have S := Lib.hid s5
  have HX := Lib.hid hx; have HLT := Lib.hid hlt
  have k0 : (w2.alloc (.cells #[.int .i64 3, .int .i64 hi, .int .i64 10, .int .i64 12] 50)).cell? ⟨w.heap.size, 0, none⟩ = some (.slice none 0 0) := cell_of_row _ _ _ _ _ _ hk3
  have k1 : (w2.alloc (.cells #[.int .i64 3, .int .i64 hi, .int .i64 10, .int .i64 12] 50)).cell? ⟨w.heap.size, 1, none⟩ = some (.int .i64 0) := cell_of_row _ _ _ _ _ _ hk3
  have k2 : (w2.alloc (.cells #[.int .i64 3, .int .i64 hi, .int .i64 10, .int .i64 12] 50)).cell? ⟨w.heap.size, 2, none⟩ = some (.int .i64 0) := cell_of_row _ _ _ _ _ _ hk3
  have k3 : (w2.alloc (.cells #[.int .i64 3, .int .i64 hi, .int .i64 10, .int .i64 12] 50)).cell? ⟨w.heap.size, 3, none⟩ = some (.int .i64 0) := cell_of_row _ _ _ _ _ _ hk3
  have k4 : (w2.alloc (.cells #[.int .i64 3, .int .i64 hi, .int .i64 10, .int .i64 12] 50)).cell? ⟨w.heap.size, 4, none⟩ = some (.int .i64 0) := cell_of_row _ _ _ _ _ _ hk3
  have fr : ∀ j, (w2.alloc (.cells #[.int .i64 3, .int .i64 hi, .int .i64 10, .int .i64 12] 50)).frozen? ⟨w.heap.size, j, none⟩ = false := fun j => by simp only [World.frozen?, hk3]; rfl
  clear s1 s2 s3 s4 s5 hk2 hk3 hx hlt P2
  go_wp2
  have e0 := cell_of_row _ _ 0 _ _ _ S.out
  have e1 := cell_of_row _ _ 1 _ _ _ S.out
  have e2 := cell_of_row _ _ 2 _ _ _ S.out
  have e3 := cell_of_row _ _ 3 _ _ _ S.out
  have e4 := cell_of_row _ _ 4 _ _ _ S.out
  simp only [List.setIfInBounds_toArray, List.set_cons_zero, List.set_cons_succ, List.getElem?_toArray, List.getElem?_cons_zero, List.getElem?_cons_succ] at e0 e1 e2 e3 e4
  refine bodyPost_ret (v := exV w2.heap.size 1000 100) ?_ rfl ⟨_, rfl, ?_, ?_⟩
  · simp [results, Try.f61, go_sem, e0, e1, e2, e3, e4, exV]
  · have ne : w2.heap.size ≠ w.heap.size := by have := HLT.out; omega
    exact (Below.heap_setCell _ _ _ _ ne).trans ((Below.heap_setCell _ _ _ _ ne).trans ((Below.heap_setCell _ _ _ _ ne).trans ((Below.heap_setCell _ _ _ _ ne).trans ((Below.heap_setCell _ _ _ _ ne).trans HX.out))))
  · exact Only.setCell (Only.setCell (Only.setCell (Only.setCell (Only.setCell (Q2.out.alloc _) (.inr (Nat.le_refl _)) _) (.inr (Nat.le_refl _)) _) (.inr (Nat.le_refl _)) _) (.inr (Nat.le_refl _)) _) (.inr (Nat.le_refl _)) _
set_option maxHeartbeats 1000000 in
set_option maxRecDepth 100000 in
theorem taxed_any (w : World) : Calls Try.prog 62 #[] w fun e w' => ∃ x, e = .returned (exV x 1500 400) ∧ Tk w' x 5 ∧ Pure w w' := by
  have hP0 : Pure w (w.alloc (.cells #[.slice none 0 0, .int .i64 0, .int .i64 0, .int .i64 0, .int .i64 0] 24)) := (Only.refl _ w).alloc _
  have hk0 := World.alloc_heap_new w (.cells #[.slice none 0 0, .int .i64 0, .int .i64 0, .int .i64 0, .int .i64 0] 24)
  have HP0 := Lib.hid hP0; have HK0 := Lib.hid hk0; clear hP0 hk0
  go_enter Try.func62, Try.ntmps62
  go_wp2_with fail
  refine (Pool_any 5 _).mono ?_
  rintro e w1 ⟨x, rfl, hT, P1⟩
  have hk1 := P1.heap HK0.out (fun f => f)
  have hlt := lt_of_block hk1
  have hxn : x ≠ w.heap.size := fun he => by
    subst he
    unfold Tk at hT
    rw [hk1] at hT
    simp at hT
  have HP2 := Lib.hid ((HP0.out.trans P1).alloc (.cells #[.slice (some ⟨x, 0, none⟩) 2 2, .int .i64 1500, .int .i64 400, .int .i64 0, .int .i64 10] 24))
  have HS2 := World.alloc_heap_new w1 (.cells #[.slice (some ⟨x, 0, none⟩) 2 2, .int .i64 1500, .int .i64 400, .int .i64 0, .int .i64 10] 24)
  have HK2 := (Below.heap_alloc w1 (.cells #[.slice (some ⟨x, 0, none⟩) 2 2, .int .i64 1500, .int .i64 400, .int .i64 0, .int .i64 10] 24) _ hlt).trans hk1
  have HT2 := (Below.heap_alloc w1 (.cells #[.slice (some ⟨x, 0, none⟩) 2 2, .int .i64 1500, .int .i64 400, .int .i64 0, .int .i64 10] 24) _ (lt_of_block hT)).trans hT
  have HXN := Lib.hid hxn
  clear hk1 hT P1 hlt hxn
  unfold exV
  go_upto_region 3 with fail
  generalize (w1.alloc (.cells #[.slice (some ⟨x, 0, none⟩) 2 2, .int .i64 1500, .int .i64 400, .int .i64 0, .int .i64 10] 24)) = W at HS2 HK2 HT2 HP2 ⊢
  generalize w1.heap.size = rb at HS2 ⊢
  have k0 : W.cell? ⟨w.heap.size, 0, none⟩ = some (.slice none 0 0) := cell_of_row _ _ _ _ _ _ HK2
  have k1 : W.cell? ⟨w.heap.size, 1, none⟩ = some (.int .i64 0) := cell_of_row _ _ _ _ _ _ HK2
  have k2 : W.cell? ⟨w.heap.size, 2, none⟩ = some (.int .i64 0) := cell_of_row _ _ _ _ _ _ HK2
  have k3 : W.cell? ⟨w.heap.size, 3, none⟩ = some (.int .i64 0) := cell_of_row _ _ _ _ _ _ HK2
  have k4 : W.cell? ⟨w.heap.size, 4, none⟩ = some (.int .i64 0) := cell_of_row _ _ _ _ _ _ HK2
  have l0 : W.cell? ⟨rb, 0, none⟩ = some (.slice (some ⟨x, 0, none⟩) 2 2) := cell_of_row _ _ _ _ _ _ HS2
  have l1 : W.cell? ⟨rb, 1, none⟩ = some (.int .i64 1500) := cell_of_row _ _ _ _ _ _ HS2
  have l2 : W.cell? ⟨rb, 2, none⟩ = some (.int .i64 400) := cell_of_row _ _ _ _ _ _ HS2
  have l3 : W.cell? ⟨rb, 3, none⟩ = some (.int .i64 0) := cell_of_row _ _ _ _ _ _ HS2
  have l4 : W.cell? ⟨rb, 4, none⟩ = some (.int .i64 10) := cell_of_row _ _ _ _ _ _ HS2
  have fr : ∀ j, W.frozen? ⟨w.heap.size, j, none⟩ = false := fun j => by simp only [World.frozen?, HK2]; rfl
  have z1 := heap_setCell_same _ _ 0 _ _ (.slice (some ⟨x, 0, none⟩) 2 2) HK2
  have z2 := heap_setCell_same _ _ 1 _ _ (.int .i64 1500) z1
  have z3 := heap_setCell_same _ _ 2 _ _ (.int .i64 400) z2
  have z4 := heap_setCell_same _ _ 3 _ _ (.int .i64 0) z3
  have z5 := heap_setCell_same _ _ 4 _ _ (.int .i64 10) z4
  have Z := Lib.hid z5
  have HT3 := Lib.hid HT2
  clear z1 z2 z3 z4 z5 HS2 HK2 HT2
  go_wp2
  have e0 := cell_of_row _ _ 0 _ _ _ Z.out
  have e1 := cell_of_row _ _ 1 _ _ _ Z.out
  have e2 := cell_of_row _ _ 2 _ _ _ Z.out
  have e3 := cell_of_row _ _ 3 _ _ _ Z.out
  have e4 := cell_of_row _ _ 4 _ _ _ Z.out
  simp only [List.setIfInBounds_toArray, List.set_cons_zero, List.set_cons_succ, List.getElem?_toArray, List.getElem?_cons_zero, List.getElem?_cons_succ] at e0 e1 e2 e3 e4
  refine bodyPost_ret (v := exV x 1500 400) ?_ rfl ⟨_, rfl, ?_, ?_⟩
  · simp [results, Try.f62, go_sem, e0, e1, e2, e3, e4, exV]
  · have ne := HXN.out
    exact (Below.heap_setCell _ _ _ _ ne).trans ((Below.heap_setCell _ _ _ _ ne).trans ((Below.heap_setCell _ _ _ _ ne).trans ((Below.heap_setCell _ _ _ _ ne).trans ((Below.heap_setCell _ _ _ _ ne).trans HT3.out))))
  · exact Only.setCell (Only.setCell (Only.setCell (Only.setCell (Only.setCell HP2.out (.inr (Nat.le_refl _)) _) (.inr (Nat.le_refl _)) _) (.inr (Nat.le_refl _)) _) (.inr (Nat.le_refl _)) _) (.inr (Nat.le_refl _)) _
end Go.Proofs.Ytngkmfddamaegaa
