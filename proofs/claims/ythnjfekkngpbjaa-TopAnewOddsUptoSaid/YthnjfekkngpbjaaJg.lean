/-
  Parts of the proof: Pk, Pm, Trod, Data, Pn.
-/
import Derived.Test.YthnjfekkngpbjaaJf
import Derived.Deep.AppendLies
import Derived.Test.YthnjfekkngpbjaaRows
import Derived.ChangeArms
import Derived.DataReads
import Derived.ChangeOld
/- Works. -/
namespace Go.Proofs.Ythnjfekkngpbjaa
open Go.RowKit

theorem of_any (a b : Int) (w : World) : Calls Try.prog 72 #[.int .i64 a, .int .i64 b] w fun e w' => e = .returned (.agg #[.int .i64 a, .int .i64 b]) ∧ Pure w w' := by
  have hk := World.alloc_heap_new w (.cells #[.int .i64 a, .int .i64 b] 23)
  have e0 := cell_of_row _ _ 0 _ _ _ hk
  have e1 := cell_of_row _ _ 1 _ _ _ hk
  simp at e0 e1
  clear hk
  go_enter Try.func72, Try.ntmps72
  go_wp2
  refine bodyPost_ret (v := .agg #[.int .i64 a, .int .i64 b]) ?_ rfl ⟨rfl, (Only.refl _ w).alloc _⟩
  simp [results, Try.f72, go_sem, e0, e1]
theorem quote_any (a b c : Int) (l : Bool) (w : World) : Calls Try.prog 86 #[.int .i64 a, .int .i64 b, .int .i64 c, .bool l] w fun e w' => e = .returned (.agg #[.int .i64 a, .int .i64 b, .int .i64 c, .bool l]) ∧ Pure w w' := by
  have hk := World.alloc_heap_new w (.cells #[.int .i64 a, .int .i64 b, .int .i64 c, .bool l] 83)
  have e0 := cell_of_row _ _ 0 _ _ _ hk
  have e1 := cell_of_row _ _ 1 _ _ _ hk
  have e2 := cell_of_row _ _ 2 _ _ _ hk
  have e3 := cell_of_row _ _ 3 _ _ _ hk
  simp at e0 e1 e2 e3
  clear hk
  go_enter Try.func86, Try.ntmps86
  go_wp2
  refine bodyPost_ret (v := .agg #[.int .i64 a, .int .i64 b, .int .i64 c, .bool l]) ?_ rfl ⟨rfl, (Only.refl _ w).alloc _⟩
  simp [results, Try.f86, go_sem, e0, e1, e2, e3]
theorem pool_any (w : World) : Calls Try.prog 70 #[] w fun e w' => ∃ g, e = .returned (.agg #[.slice (some ⟨g, 0, none⟩) 3 3, .int .i64 100]) ∧ Pairs (fun _ => True) w' (.slice (some ⟨g, 0, none⟩) 3 3) pP.stakes ∧ Pure w w' := by
  have h0 := lay_row [.cells #[.slice (some ⟨w.heap.size + 1, 0, none⟩) 3 3, .int .i64 100] 26, .cells #[.int .i64 50, .int .i64 60, .int .i64 30, .int .i64 30, .int .i64 10, .int .i64 10] 76] w 0 _ rfl
  have h1 := lay_row [.cells #[.slice (some ⟨w.heap.size + 1, 0, none⟩) 3 3, .int .i64 100] 26, .cells #[.int .i64 50, .int .i64 60, .int .i64 30, .int .i64 30, .int .i64 10, .int .i64 10] 76] w 1 _ rfl
  have hp := lay_pure [.cells #[.slice (some ⟨w.heap.size + 1, 0, none⟩) 3 3, .int .i64 100] 26, .cells #[.int .i64 50, .int .i64 60, .int .i64 30, .int .i64 30, .int .i64 10, .int .i64 10] 76] w
  simp only [lay] at h0 h1 hp
  have e0 := cell_of_row _ _ 0 _ _ _ h0
  have e1 := cell_of_row _ _ 1 _ _ _ h0
  simp at e0 e1
  have HP := Lib.hid hp; have H1 := Lib.hid h1
  clear h0 h1 hp
  go_enter Try.func70, Try.ntmps70
  go_wp2
  refine bodyPost_ret (v := .agg #[.slice (some ⟨w.heap.size + 1, 0, none⟩) 3 3, .int .i64 100]) ?_ rfl ⟨_, rfl, ?_, HP.out⟩
  · simp [results, Try.f70, go_sem, e0, e1]
  · refine ⟨_, 3, 3, rfl, rfl, Nat.le_refl _, by decide, fun i hi => ?_⟩
    rcases (by omega : i = 0 ∨ i = 1 ∨ i = 2) with rfl | rfl | rfl <;> exact ⟨w.heap.size + 1, 0, rfl, trivial, cell_of_row _ _ _ _ _ _ H1.out, cell_of_row _ _ _ _ _ _ H1.out⟩

def rowM : Array Value := #[.int .i64 0, .int .i64 3, .int .i64 2, .bool false, .int .i64 1, .int .i64 1, .int .i64 1, .bool false]
def rowF : Array Value := #[.int .i64 0, .int .i64 1, .int .i64 1, .bool false, .int .i64 0, .int .i64 3, .int .i64 2, .bool true, .int .i64 1, .int .i64 1, .int .i64 1, .bool false]
theorem quotesM {w : World} {g : Nat} (h : w.heap[g]? = some (.cells rowM 83 (0, 0))) : Quotes (fun _ => True) w (.slice (some ⟨g, 0, none⟩) 2 2) mM.quotes := by
  refine ⟨_, 2, 2, rfl, rfl, Nat.le_refl _, by decide, fun i hi => ?_⟩
  rcases (by omega : i = 0 ∨ i = 1) with rfl | rfl <;> exact ⟨g, 0, rfl, trivial, cell_of_row _ _ _ _ _ _ h, cell_of_row _ _ _ _ _ _ h, cell_of_row _ _ _ _ _ _ h, cell_of_row _ _ _ _ _ _ h⟩
theorem quotesF {w : World} {g : Nat} (h : w.heap[g]? = some (.cells rowF 83 (0, 0))) : Quotes (fun _ => True) w (.slice (some ⟨g, 0, none⟩) 3 3) mF.quotes := by
  refine ⟨_, 3, 3, rfl, rfl, Nat.le_refl _, by decide, fun i hi => ?_⟩
  rcases (by omega : i = 0 ∨ i = 1 ∨ i = 2) with rfl | rfl | rfl <;> exact ⟨g, 0, rfl, trivial, cell_of_row _ _ _ _ _ _ h, cell_of_row _ _ _ _ _ _ h, cell_of_row _ _ _ _ _ _ h, cell_of_row _ _ _ _ _ _ h⟩

/-- Rows that lie in a world. -/
def RowsAt (w : World) (L : List (Nat × Obj)) : Prop := ∀ x, x ∈ L → w.heap[x.1]? = some x.2
theorem RowsAt.pure {w w' : World} {L : List (Nat × Obj)} (h : RowsAt w L) (hp : Pure w w') : RowsAt w' L := fun x hx => hp.heap (h x hx) (fun f => f)
theorem RowsAt.cons {w : World} {L : List (Nat × Obj)} {b : Nat} {o : Obj} (h : RowsAt w L) (hb : w.heap[b]? = some o) : RowsAt w ((b, o) :: L) := fun x hx => by
  rcases List.mem_cons.1 hx with rfl | hx
  · exact hb
  · exact h x hx
theorem RowsAt.cell {w : World} {L : List (Nat × Obj)} (h : RowsAt w L) (b i : Nat) (cs : Array Value) (t : TypeId) (v : Value) (hb : (b, Obj.cells cs t) ∈ L) (hv : cs[i]? = some v) : w.cell? ⟨b, i, none⟩ = some v := by
  rw [cell_of_row _ _ _ _ _ _ (h _ hb)]; exact hv
theorem lit_ints (l : List Int) (w : World) (hl : l.length ≤ 1000) : Ints (fun _ => True) (w.alloc (.cells (l.map (Value.int .i64)).toArray 2)) (.slice (some ⟨w.heap.size, 0, none⟩) l.length l.length) l := by
  have h := World.alloc_heap_new w (.cells (l.map (Value.int .i64)).toArray 2)
  refine ⟨_, _, _, rfl, rfl, Nat.le_refl _, by omega, fun i hi => ⟨w.heap.size, 0, rfl, trivial, ?_⟩⟩
  rw [Nat.zero_add]
  exact arr_get h i hi

set_option maxHeartbeats 2000000 in
set_option maxRecDepth 100000 in
theorem markets_any (w : World) : Calls Try.prog 71 #[] w fun e w' => ∃ g1 g2, e = .returned (.tuple #[.agg #[.int .i64 2, .slice (some ⟨g1, 0, none⟩) 2 2], .agg #[.int .i64 2, .slice (some ⟨g2, 0, none⟩) 3 3]]) ∧
    w'.heap[g1]? = some (.cells rowM 83 (0, 0)) ∧ w'.heap[g2]? = some (.cells rowF 83 (0, 0)) ∧ Pure w w' := by
  obtain ⟨w0, hw0⟩ : ∃ x, x = (w.alloc (.cells #[.int .i64 0, .slice none 0 0] 29)).alloc (.cells #[.int .i64 0, .slice none 0 0] 29) := ⟨_, rfl⟩
  have hP0 : Pure w w0 := by rw [hw0]; exact lay_pure [_, _] w
  have hk0 : w0.heap[w.heap.size]? = some (.cells #[.int .i64 0, .slice none 0 0] 29) := by rw [hw0]; exact lay_row [_, _] w 0 _ rfl
  have hk1 : w0.heap[w.heap.size + 1]? = some (.cells #[.int .i64 0, .slice none 0 0] 29) := by rw [hw0]; exact lay_row [_, _] w 1 _ rfl
  have HP0 := Lib.hid hP0; have K0 := Lib.hid hk0; have K1 := Lib.hid hk1; have HW := Lib.hid hw0
  clear hP0 hk0 hk1 hw0
  go_enter Try.func71, Try.ntmps71
  go_upto_region 1 with fail
  rw [← HW.out]
  go_wp2_with fail
  refine (quote_any _ _ _ _ _).mono ?_
  rintro e w1 ⟨rfl, P1⟩
  have Q1 := Lib.hid P1; clear P1
  go_wp2_with fail
  refine (quote_any _ _ _ _ _).mono ?_
  rintro e w2 ⟨rfl, P2⟩
  have Q2 := Lib.hid (Q1.out.trans P2); clear P2
  obtain ⟨w3, hw3⟩ : ∃ x, x = w2.alloc (.cells rowM 83) := ⟨_, rfl⟩
  have Q3 := Lib.hid (show Pure w0 w3 by rw [hw3]; exact Q2.out.alloc _)
  have R3 := Lib.hid (show w3.heap[w2.heap.size]? = some (.cells rowM 83 (0, 0)) by rw [hw3]; exact World.alloc_heap_new w2 _)
  unfold rowM at hw3
  have HW3 := Lib.hid hw3; clear hw3
  go_wp2_with fail
  rw [← HW3.out]
  refine (quote_any _ _ _ _ _).mono ?_
  rintro e w4 ⟨rfl, P4⟩
  have Q4 := Lib.hid (Q3.out.trans P4); have R4 := Lib.hid (P4.heap R3.out (fun f => f)); clear P4
  go_wp2_with fail
  refine (quote_any _ _ _ _ _).mono ?_
  rintro e w5 ⟨rfl, P5⟩
  have Q5 := Lib.hid (Q4.out.trans P5); have R5 := Lib.hid (P5.heap R4.out (fun f => f)); clear P5
  go_wp2_with fail
  refine (quote_any _ _ _ _ _).mono ?_
  rintro e w6 ⟨rfl, P6⟩
  have Q6 := Lib.hid (Q5.out.trans P6); have R6 := Lib.hid (P6.heap R5.out (fun f => f)); clear P6
  have hk0 := Q6.out.heap K0.out (fun f => f)
  have hk1 := Q6.out.heap K1.out (fun f => f)
  have c0 : w6.cell? ⟨w.heap.size, 0, none⟩ = some (.int .i64 0) := cell_of_row _ _ _ _ _ _ hk0
  have c1 : w6.cell? ⟨w.heap.size, 1, none⟩ = some (.slice none 0 0) := cell_of_row _ _ _ _ _ _ hk0
  have d0 : w6.cell? ⟨w.heap.size + 1, 0, none⟩ = some (.int .i64 0) := cell_of_row _ _ _ _ _ _ hk1
  have d1 : w6.cell? ⟨w.heap.size + 1, 1, none⟩ = some (.slice none 0 0) := cell_of_row _ _ _ _ _ _ hk1
  have f0 : ∀ j, w6.frozen? ⟨w.heap.size, j, none⟩ = false := fun j => arr_frozen hk0 j
  have f1 : ∀ j, w6.frozen? ⟨w.heap.size + 1, j, none⟩ = false := fun j => arr_frozen hk1 j
  have hlt := lt_of_block hk1
  have hlt0 := lt_of_block hk0
  obtain ⟨g1, hg1⟩ : ∃ x, x = w2.heap.size := ⟨_, rfl⟩
  rw [← hg1] at R6 ⊢
  clear hg1
  have hne0 : g1 ≠ w.heap.size := fun e => by have h := R6.out; rw [e, hk0] at h; cases h
  have hne1 : g1 ≠ w.heap.size + 1 := fun e => by have h := R6.out; rw [e, hk1] at h; cases h
  obtain ⟨u, hu⟩ : ∃ u, u = (((w6.setCell ⟨w.heap.size, 0, none⟩ (.int .i64 2)).setCell ⟨w.heap.size, 1, none⟩ (.slice (some ⟨g1, 0, none⟩) 2 2)).setCell ⟨w.heap.size + 1, 0, none⟩ (.int .i64 2)).setCell ⟨w.heap.size + 1, 1, none⟩ (.slice (some ⟨w6.heap.size, 0, none⟩) 3 3) := ⟨_, rfl⟩
  have s1 := heap_setCell_same _ _ 0 _ _ (.int .i64 2) hk0
  have s2 := heap_setCell_same _ _ 1 _ _ (.slice (some ⟨g1, 0, none⟩) 2 2) s1
  have hO := (((Only.refl (fun k => k = w.heap.size) w6).setCell (p := ⟨w.heap.size, 0, none⟩) (.inl rfl) (.int .i64 2)).setCell (p := ⟨w.heap.size, 1, none⟩) (.inl rfl) (.slice (some ⟨g1, 0, none⟩) 2 2))
  have t1 := heap_setCell_same _ _ 0 _ _ (.int .i64 2) (hO.heap hk1 (by omega))
  have t2 := heap_setCell_same _ _ 1 _ _ (.slice (some ⟨w6.heap.size, 0, none⟩) 3 3) t1
  have hO2 := (((Only.refl (fun k => k = w.heap.size + 1) ((w6.setCell ⟨w.heap.size, 0, none⟩ (.int .i64 2)).setCell ⟨w.heap.size, 1, none⟩ (.slice (some ⟨g1, 0, none⟩) 2 2))).setCell (p := ⟨w.heap.size + 1, 0, none⟩) (.inl rfl) (.int .i64 2)).setCell (p := ⟨w.heap.size + 1, 1, none⟩) (.inl rfl) (.slice (some ⟨w6.heap.size, 0, none⟩) 3 3))
  have s3 := hO2.heap s2 (by omega)
  have r7 := hO2.heap (hO.heap R6.out hne0) hne1
  rw [← hu] at t2 s3 r7 hO2
  have hPu : Pure w u := (HP0.out.trans Q6.out).trans' ((hO.mono (S' := fun k => k = w.heap.size ∨ k = w.heap.size + 1) (fun _ _ h => .inl h)).trans (hO2.mono (fun _ _ h => .inr h))) (fun i hi e => by omega)
  have HPu := Lib.hid hPu; have HU := Lib.hid hu; have T2 := Lib.hid t2; have S3 := Lib.hid s3; have R7 := Lib.hid r7
  clear s1 s2 hO t1 t2 hO2 s3 r7 hPu hu hk0 hk1
  go_wp2_with fail
  have hz : w6.heap.size = u.heap.size := by rw [HU.out]; simp
  rw [← HU.out]
  have hA := (Only.refl (fun _ => False) u).alloc (.cells rowF 83)
  have n0 := hA.heap S3.out (fun f => f)
  have n1 := hA.heap T2.out (fun f => f)
  have e0 := cell_of_row _ _ 0 _ _ _ n0
  have e1 := cell_of_row _ _ 1 _ _ _ n0
  have e2 := cell_of_row _ _ 0 _ _ _ n1
  have e3 := cell_of_row _ _ 1 _ _ _ n1
  unfold rowF at e0 e1 e2 e3
  simp only [List.setIfInBounds_toArray, List.set_cons_zero, List.set_cons_succ, List.getElem?_toArray, List.getElem?_cons_zero, List.getElem?_cons_succ] at e0 e1 e2 e3
  refine bodyPost_ret (v := .tuple #[.agg #[.int .i64 2, .slice (some ⟨g1, 0, none⟩) 2 2], .agg #[.int .i64 2, .slice (some ⟨w6.heap.size, 0, none⟩) 3 3]]) ?_ rfl ⟨g1, w6.heap.size, rfl, hA.heap R7.out (fun f => f), by rw [hz]; exact World.alloc_heap_new u _, HPu.out.alloc _⟩
  simp [results, Try.f71, go_sem, e0, e1, e2, e3]

theorem z12' : chancesR mF = ([1, 1], 0) := by decide +kernel
theorem x1 : checkMarket mM = 0 := by decide +kernel
theorem x2 : ∀ i, i < [4, 5].length → 0 ≤ sAt [4, 5] i ∧ sAt [4, 5] i ≤ 1099511627776 := by decide +kernel
theorem x3 : ∀ r : Nat, (r : Int) < mM.runners → 0 < netOf mM [4, 5] r := fun r h => by
  have h2 : (r : Int) < 2 := h
  rcases (by omega : r = 0 ∨ r = 1) with rfl | rfl <;> decide +kernel
theorem x4 : checkMarket mF = 0 := by decide +kernel
theorem x5 : ∀ i, i < [1, 1].length → 0 ≤ sAt [1, 1] i ∧ sAt [1, 1] i ≤ 1099511627776 := by decide +kernel
theorem x6 : 1 ≤ sumW [1, 1] ∧ sumW [1, 1] ≤ 1099511627776 := by decide +kernel
theorem x7 : ∀ i, i < mF.quotes.length → fairQ [1, 1] (qAt mF.quotes i) := fun i h => by
  have h2 : i < 3 := h
  unfold fairQ
  rcases (by omega : i = 0 ∨ i = 1 ∨ i = 2) with rfl | rfl | rfl <;> decide +kernel

set_option maxHeartbeats 8000000 in
set_option maxRecDepth 100000 in
theorem Works_any (w : World) : Calls Try.prog 40 #[] w fun e w' => e = .returned (.bool true) ∧ Pure w w' := by
  go_enter Try.func40, Try.ntmps40
  go_wp2_with fail
  refine (pool_any _).mono ?_
  rintro e t1 ⟨gp, rfl, hpp, P1⟩
  have hA := (Only.refl (fun _ => False) t1).alloc (.cells #[.slice (some ⟨gp, 0, none⟩) 3 3, .int .i64 100] 26)
  have HR := Lib.hid (show RowsAt _ [(t1.heap.size, Obj.cells #[.slice (some ⟨gp, 0, none⟩) 3 3, .int .i64 100] 26)] from fun x hx => by
    rw [List.mem_singleton] at hx; subst hx; exact World.alloc_heap_new t1 _)
  have HPP := Lib.hid (hpp.pure hA); have HP := Lib.hid (P1.trans hA)
  clear hpp P1 hA
  go_upto_region 2 with fail
  generalize t1.alloc (.cells #[.slice (some ⟨gp, 0, none⟩) 3 3, .int .i64 100] 26) = t2 at HR HPP HP ⊢
  generalize t1.heap.size = bp at HR ⊢
  go_wp2_with fail
  refine (markets_any _).mono ?_
  rintro e t3 ⟨gm, gf, rfl, hm, hf, P3⟩
  obtain ⟨u0, hu0⟩ : ∃ x, x = (t3.alloc (.cells #[.int .i64 2, .slice (some ⟨gm, 0, none⟩) 2 2] 29)).alloc (.cells #[.int .i64 2, .slice (some ⟨gf, 0, none⟩) 3 3] 29) := ⟨_, rfl⟩
  have hPl : Pure t3 u0 := by rw [hu0]; exact lay_pure [_, _] t3
  have r0 : u0.heap[t3.heap.size]? = some (.cells #[.int .i64 2, .slice (some ⟨gm, 0, none⟩) 2 2] 29) := by rw [hu0]; exact lay_row [_, _] t3 0 _ rfl
  have r1 : u0.heap[t3.heap.size + 1]? = some (.cells #[.int .i64 2, .slice (some ⟨gf, 0, none⟩) 3 3] 29) := by rw [hu0]; exact lay_row [_, _] t3 1 _ rfl
  have HM := Lib.hid (quotesM (hPl.heap hm (fun f => f))); have HF := Lib.hid (quotesF (hPl.heap hf (fun f => f)))
  have HR := Lib.hid (((HR.out.pure (P3.trans hPl)).cons r0).cons r1)
  have HPP := Lib.hid (HPP.out.pure (P3.trans hPl)); have HP := Lib.hid (HP.out.trans (P3.trans hPl)); have HU := Lib.hid hu0
  clear hm hf P3 hu0 hPl r0 r1
  go_upto_region 3 with fail
  rw [← HU.out]
  clear HU
  generalize t3.heap.size + 1 = bf at HR ⊢
  generalize t3.heap.size = bm at HR ⊢
  go_wp2_with fail
  refine (of_any _ _ _).mono ?_
  rintro e v1 ⟨rfl, PQ⟩
  have HR := Lib.hid (HR.out.pure PQ)
  have HPP := Lib.hid (HPP.out.pure PQ)
  have HM := Lib.hid (HM.out.pure PQ)
  have HF := Lib.hid (HF.out.pure PQ)
  have HP := Lib.hid (HP.out.trans PQ)
  clear PQ
  have hC := Near_any (31, 50) 5 v1
  rw [z1] at hC
  try dsimp only at hC
  go_wp2_with fail
  refine hC.mono ?_
  rintro e v2 ⟨rfl, PQ⟩
  have HR := Lib.hid (HR.out.pure PQ)
  have HPP := Lib.hid (HPP.out.pure PQ)
  have HM := Lib.hid (HM.out.pure PQ)
  have HF := Lib.hid (HF.out.pure PQ)
  have HP := Lib.hid (HP.out.trans PQ)
  clear hC PQ
  obtain ⟨v3, hN⟩ : ∃ x, x = ((v2.alloc (.cells #[.int .i64 3, .int .i64 5] 23)).alloc (.cells #[.int .i64 2, .int .i64 3] 23)) := ⟨_, rfl⟩
  have hPl : Pure v2 v3 := by rw [hN]; exact lay_pure [_, _] v2
  have r0 : v3.heap[v2.heap.size]? = some (.cells #[.int .i64 3, .int .i64 5] 23) := by rw [hN]; exact lay_row [_, _] v2 0 _ rfl
  have r1 : v3.heap[v2.heap.size + 1]? = some (.cells #[.int .i64 2, .int .i64 3] 23) := by rw [hN]; exact lay_row [_, _] v2 1 _ rfl
  have HR := Lib.hid (((HR.out.pure hPl).cons r0).cons r1)
  have HPP := Lib.hid (HPP.out.pure hPl)
  have HM := Lib.hid (HM.out.pure hPl)
  have HF := Lib.hid (HF.out.pure hPl)
  have HP := Lib.hid (HP.out.trans hPl); have HN := Lib.hid hN
  clear hN hPl r0 r1
  go_upto_region 4 with fail
  rw [← HN.out]
  clear HN
  generalize v2.heap.size + 1 = xb at HR ⊢
  generalize v2.heap.size = xa at HR ⊢
  go_wp2_with fail
  refine (of_any _ _ _).mono ?_
  rintro e v4 ⟨rfl, PQ⟩
  have HR := Lib.hid (HR.out.pure PQ)
  have HPP := Lib.hid (HPP.out.pure PQ)
  have HM := Lib.hid (HM.out.pure PQ)
  have HF := Lib.hid (HF.out.pure PQ)
  have HP := Lib.hid (HP.out.trans PQ)
  clear PQ
  go_wp2_with fail
  refine (of_any _ _ _).mono ?_
  rintro e v5 ⟨rfl, PQ⟩
  have HR := Lib.hid (HR.out.pure PQ)
  have HPP := Lib.hid (HPP.out.pure PQ)
  have HM := Lib.hid (HM.out.pure PQ)
  have HF := Lib.hid (HF.out.pure PQ)
  have HP := Lib.hid (HP.out.trans PQ)
  clear PQ
  go_wp2_with fail
  refine (of_any _ _ _).mono ?_
  rintro e v6 ⟨rfl, PQ⟩
  have HR := Lib.hid (HR.out.pure PQ)
  have HPP := Lib.hid (HPP.out.pure PQ)
  have HM := Lib.hid (HM.out.pure PQ)
  have HF := Lib.hid (HF.out.pure PQ)
  have HP := Lib.hid (HP.out.trans PQ)
  clear PQ
  have hC := CheckNear_any (31, 50) 5 (1, 2) (2, 3) v6
  rw [z2] at hC
  try dsimp only at hC
  go_wp2_with fail
  refine hC.mono ?_
  rintro e v7 ⟨rfl, PQ⟩
  have HR := Lib.hid (HR.out.pure PQ)
  have HPP := Lib.hid (HPP.out.pure PQ)
  have HM := Lib.hid (HM.out.pure PQ)
  have HF := Lib.hid (HF.out.pure PQ)
  have HP := Lib.hid (HP.out.trans PQ)
  clear hC PQ
  go_wp2_with fail
  refine (of_any _ _ _).mono ?_
  rintro e v8 ⟨rfl, PQ⟩
  have HR := Lib.hid (HR.out.pure PQ)
  have HPP := Lib.hid (HPP.out.pure PQ)
  have HM := Lib.hid (HM.out.pure PQ)
  have HF := Lib.hid (HF.out.pure PQ)
  have HP := Lib.hid (HP.out.trans PQ)
  clear PQ
  have hC := Round_any (3, 4) 2 v8
  rw [z3] at hC
  try dsimp only at hC
  go_wp2_with fail
  refine hC.mono ?_
  rintro e v9 ⟨rfl, PQ⟩
  have HR := Lib.hid (HR.out.pure PQ)
  have HPP := Lib.hid (HPP.out.pure PQ)
  have HM := Lib.hid (HM.out.pure PQ)
  have HF := Lib.hid (HF.out.pure PQ)
  have HP := Lib.hid (HP.out.trans PQ)
  clear hC PQ
  obtain ⟨v10, hN⟩ : ∃ x, x = (v9.alloc (.cells #[.int .i64 1, .int .i64 2] 23)) := ⟨_, rfl⟩
  have hPl : Pure v9 v10 := by rw [hN]; exact lay_pure [_] v9
  have r0 : v10.heap[v9.heap.size]? = some (.cells #[.int .i64 1, .int .i64 2] 23) := by rw [hN]; exact lay_row [_] v9 0 _ rfl
  have HR := Lib.hid ((HR.out.pure hPl).cons r0)
  have HPP := Lib.hid (HPP.out.pure hPl)
  have HM := Lib.hid (HM.out.pure hPl)
  have HF := Lib.hid (HF.out.pure hPl)
  have HP := Lib.hid (HP.out.trans hPl); have HN := Lib.hid hN
  clear hN hPl r0
  go_upto_region 6 with fail
  rw [← HN.out]
  clear HN
  generalize v9.heap.size = xc at HR ⊢
  go_wp2_with fail
  refine (of_any _ _ _).mono ?_
  rintro e v11 ⟨rfl, PQ⟩
  have HR := Lib.hid (HR.out.pure PQ)
  have HPP := Lib.hid (HPP.out.pure PQ)
  have HM := Lib.hid (HM.out.pure PQ)
  have HF := Lib.hid (HF.out.pure PQ)
  have HP := Lib.hid (HP.out.trans PQ)
  clear PQ
  go_wp2_with fail
  refine (of_any _ _ _).mono ?_
  rintro e v12 ⟨rfl, PQ⟩
  have HR := Lib.hid (HR.out.pure PQ)
  have HPP := Lib.hid (HPP.out.pure PQ)
  have HM := Lib.hid (HM.out.pure PQ)
  have HF := Lib.hid (HF.out.pure PQ)
  have HP := Lib.hid (HP.out.trans PQ)
  clear PQ
  have hC := Simplest_any (31, 50) (33, 50) v12
  rw [z4] at hC
  try dsimp only at hC
  go_wp2_with fail
  refine hC.mono ?_
  rintro e v13 ⟨rfl, PQ⟩
  have HR := Lib.hid (HR.out.pure PQ)
  have HPP := Lib.hid (HPP.out.pure PQ)
  have HM := Lib.hid (HM.out.pure PQ)
  have HF := Lib.hid (HF.out.pure PQ)
  have HP := Lib.hid (HP.out.trans PQ)
  clear hC PQ
  obtain ⟨v14, hN⟩ : ∃ x, x = (v13.alloc (.cells #[.int .i64 5, .int .i64 8] 23)) := ⟨_, rfl⟩
  have hPl : Pure v13 v14 := by rw [hN]; exact lay_pure [_] v13
  have r0 : v14.heap[v13.heap.size]? = some (.cells #[.int .i64 5, .int .i64 8] 23) := by rw [hN]; exact lay_row [_] v13 0 _ rfl
  have HR := Lib.hid ((HR.out.pure hPl).cons r0)
  have HPP := Lib.hid (HPP.out.pure hPl)
  have HM := Lib.hid (HM.out.pure hPl)
  have HF := Lib.hid (HF.out.pure hPl)
  have HP := Lib.hid (HP.out.trans hPl); have HN := Lib.hid hN
  clear hN hPl r0
  go_upto_region 7 with fail
  rw [← HN.out]
  clear HN
  generalize v13.heap.size = xd at HR ⊢
  have k0 : v14.cell? ⟨bp, 0, none⟩ = some (Value.slice (some ⟨gp, 0, none⟩) 3 3) := HR.out.cell _ _ _ 26 _ (List.mem_cons_of_mem _ (List.mem_cons_of_mem _ (List.mem_cons_of_mem _ (List.mem_cons_of_mem _ (List.mem_cons_of_mem _ (List.mem_cons_of_mem _ List.mem_cons_self)))))) rfl
  have k1 : v14.cell? ⟨bp, 1, none⟩ = some (Value.int .i64 100) := HR.out.cell _ _ _ 26 _ (List.mem_cons_of_mem _ (List.mem_cons_of_mem _ (List.mem_cons_of_mem _ (List.mem_cons_of_mem _ (List.mem_cons_of_mem _ (List.mem_cons_of_mem _ List.mem_cons_self)))))) rfl
  have hC := Span_any _ _ pP 0 v14 HPP.out
  rw [z5] at hC
  try dsimp only at hC
  go_wp2_with fail
  refine hC.mono ?_
  rintro e v15 ⟨rfl, PQ⟩
  have HR := Lib.hid (HR.out.pure PQ)
  have HPP := Lib.hid (HPP.out.pure PQ)
  have HM := Lib.hid (HM.out.pure PQ)
  have HF := Lib.hid (HF.out.pure PQ)
  have HP := Lib.hid (HP.out.trans PQ)
  clear hC PQ k0 k1
  obtain ⟨v16, hN⟩ : ∃ x, x = ((v15.alloc (.cells #[.int .i64 1, .int .i64 2] 23)).alloc (.cells #[.int .i64 31, .int .i64 50] 23)) := ⟨_, rfl⟩
  have hPl : Pure v15 v16 := by rw [hN]; exact lay_pure [_, _] v15
  have r0 : v16.heap[v15.heap.size]? = some (.cells #[.int .i64 1, .int .i64 2] 23) := by rw [hN]; exact lay_row [_, _] v15 0 _ rfl
  have r1 : v16.heap[v15.heap.size + 1]? = some (.cells #[.int .i64 31, .int .i64 50] 23) := by rw [hN]; exact lay_row [_, _] v15 1 _ rfl
  have HR := Lib.hid (((HR.out.pure hPl).cons r0).cons r1)
  have HPP := Lib.hid (HPP.out.pure hPl)
  have HM := Lib.hid (HM.out.pure hPl)
  have HF := Lib.hid (HF.out.pure hPl)
  have HP := Lib.hid (HP.out.trans hPl); have HN := Lib.hid hN
  clear hN hPl r0 r1
  go_upto_region 8 with fail
  rw [← HN.out]
  clear HN
  generalize v15.heap.size + 1 = xy at HR ⊢
  generalize v15.heap.size = xx at HR ⊢
  have k0 : v16.cell? ⟨bp, 0, none⟩ = some (Value.slice (some ⟨gp, 0, none⟩) 3 3) := HR.out.cell _ _ _ 26 _ (List.mem_cons_of_mem _ (List.mem_cons_of_mem _ (List.mem_cons_of_mem _ (List.mem_cons_of_mem _ (List.mem_cons_of_mem _ (List.mem_cons_of_mem _ (List.mem_cons_of_mem _ (List.mem_cons_of_mem _ List.mem_cons_self)))))))) rfl
  have k1 : v16.cell? ⟨bp, 1, none⟩ = some (Value.int .i64 100) := HR.out.cell _ _ _ 26 _ (List.mem_cons_of_mem _ (List.mem_cons_of_mem _ (List.mem_cons_of_mem _ (List.mem_cons_of_mem _ (List.mem_cons_of_mem _ (List.mem_cons_of_mem _ (List.mem_cons_of_mem _ (List.mem_cons_of_mem _ List.mem_cons_self)))))))) rfl
  have hC := Board_any _ _ pP 0 5 v16 HPP.out
  rw [z6] at hC
  try dsimp only at hC
  go_wp2_with fail
  refine hC.mono ?_
  rintro e v17 ⟨rfl, PQ⟩
  have HR := Lib.hid (HR.out.pure PQ)
  have HPP := Lib.hid (HPP.out.pure PQ)
  have HM := Lib.hid (HM.out.pure PQ)
  have HF := Lib.hid (HF.out.pure PQ)
  have HP := Lib.hid (HP.out.trans PQ)
  clear hC PQ k0 k1
  obtain ⟨v18, hN⟩ : ∃ x, x = ((v17.alloc (.cells #[.int .i64 1, .int .i64 2] 23)).alloc (.cells #[.int .i64 3, .int .i64 5] 23)) := ⟨_, rfl⟩
  have hPl : Pure v17 v18 := by rw [hN]; exact lay_pure [_, _] v17
  have r0 : v18.heap[v17.heap.size]? = some (.cells #[.int .i64 1, .int .i64 2] 23) := by rw [hN]; exact lay_row [_, _] v17 0 _ rfl
  have r1 : v18.heap[v17.heap.size + 1]? = some (.cells #[.int .i64 3, .int .i64 5] 23) := by rw [hN]; exact lay_row [_, _] v17 1 _ rfl
  have HR := Lib.hid (((HR.out.pure hPl).cons r0).cons r1)
  have HPP := Lib.hid (HPP.out.pure hPl)
  have HM := Lib.hid (HM.out.pure hPl)
  have HF := Lib.hid (HF.out.pure hPl)
  have HP := Lib.hid (HP.out.trans hPl); have HN := Lib.hid hN
  clear hN hPl r0 r1
  go_upto_region 9 with fail
  rw [← HN.out]
  clear HN
  generalize v17.heap.size + 1 = xv at HR ⊢
  generalize v17.heap.size = xu at HR ⊢
  have k0 : v18.cell? ⟨bf, 0, none⟩ = some (Value.int .i64 2) := HR.out.cell _ _ _ 29 _ (List.mem_cons_of_mem _ (List.mem_cons_of_mem _ (List.mem_cons_of_mem _ (List.mem_cons_of_mem _ (List.mem_cons_of_mem _ (List.mem_cons_of_mem _ (List.mem_cons_of_mem _ (List.mem_cons_of_mem _ List.mem_cons_self)))))))) rfl
  have k1 : v18.cell? ⟨bf, 1, none⟩ = some (Value.slice (some ⟨gf, 0, none⟩) 3 3) := HR.out.cell _ _ _ 29 _ (List.mem_cons_of_mem _ (List.mem_cons_of_mem _ (List.mem_cons_of_mem _ (List.mem_cons_of_mem _ (List.mem_cons_of_mem _ (List.mem_cons_of_mem _ (List.mem_cons_of_mem _ (List.mem_cons_of_mem _ List.mem_cons_self)))))))) rfl
  have hA := (Only.refl (fun _ => False) v18).alloc (.cells #[.int .i64 2, .int .i64 2, .int .i64 2] 2)
  have hL := lit_ints [2, 2, 2] v18 (by decide)
  have hC := Net_any _ _ _ _ mF [2, 2, 2] 0 _ (HF.out.pure hA) hL
  rw [z7] at hC
  try dsimp only at hC
  go_wp2_with fail
  refine hC.mono ?_
  rintro e v19 ⟨rfl, PQ⟩
  have HR := Lib.hid (HR.out.pure (hA.trans PQ))
  have HPP := Lib.hid (HPP.out.pure (hA.trans PQ))
  have HM := Lib.hid (HM.out.pure (hA.trans PQ))
  have HF := Lib.hid (HF.out.pure (hA.trans PQ))
  have HP := Lib.hid (HP.out.trans (hA.trans PQ))
  clear hC PQ k0 k1 hA hL
  obtain ⟨v20, hN⟩ : ∃ x, x = (v19.alloc (.cells #[.int .i64 (-3), .int .i64 1] 23)) := ⟨_, rfl⟩
  have hPl : Pure v19 v20 := by rw [hN]; exact lay_pure [_] v19
  have r0 : v20.heap[v19.heap.size]? = some (.cells #[.int .i64 (-3), .int .i64 1] 23) := by rw [hN]; exact lay_row [_] v19 0 _ rfl
  have HR := Lib.hid ((HR.out.pure hPl).cons r0)
  have HPP := Lib.hid (HPP.out.pure hPl)
  have HM := Lib.hid (HM.out.pure hPl)
  have HF := Lib.hid (HF.out.pure hPl)
  have HP := Lib.hid (HP.out.trans hPl); have HN := Lib.hid hN
  clear hN hPl r0
  go_upto_region 10 with fail
  rw [← HN.out]
  clear HN
  generalize v19.heap.size = xn at HR ⊢
  have k0 : v20.cell? ⟨bm, 0, none⟩ = some (Value.int .i64 2) := HR.out.cell _ _ _ 29 _ (List.mem_cons_of_mem _ (List.mem_cons_of_mem _ (List.mem_cons_of_mem _ (List.mem_cons_of_mem _ (List.mem_cons_of_mem _ (List.mem_cons_of_mem _ (List.mem_cons_of_mem _ (List.mem_cons_of_mem _ (List.mem_cons_of_mem _ (List.mem_cons_of_mem _ List.mem_cons_self)))))))))) rfl
  have k1 : v20.cell? ⟨bm, 1, none⟩ = some (Value.slice (some ⟨gm, 0, none⟩) 2 2) := HR.out.cell _ _ _ 29 _ (List.mem_cons_of_mem _ (List.mem_cons_of_mem _ (List.mem_cons_of_mem _ (List.mem_cons_of_mem _ (List.mem_cons_of_mem _ (List.mem_cons_of_mem _ (List.mem_cons_of_mem _ (List.mem_cons_of_mem _ (List.mem_cons_of_mem _ (List.mem_cons_of_mem _ List.mem_cons_self)))))))))) rfl
  have hA := (Only.refl (fun _ => False) v20).alloc (.cells #[.int .i64 5, .int .i64 5] 2)
  have hL := lit_ints [5, 5] v20 (by decide)
  have hC := CheckStakes_any _ _ _ _ mM [5, 5] _ (HM.out.pure hA) hL
  rw [z8] at hC
  try dsimp only at hC
  go_wp2_with fail
  refine hC.mono ?_
  rintro e v21 ⟨rfl, PQ⟩
  have HR := Lib.hid (HR.out.pure (hA.trans PQ))
  have HPP := Lib.hid (HPP.out.pure (hA.trans PQ))
  have HM := Lib.hid (HM.out.pure (hA.trans PQ))
  have HF := Lib.hid (HF.out.pure (hA.trans PQ))
  have HP := Lib.hid (HP.out.trans (hA.trans PQ))
  clear hC PQ k0 k1 hA hL
  have k0 : v21.cell? ⟨bm, 0, none⟩ = some (Value.int .i64 2) := HR.out.cell _ _ _ 29 _ (List.mem_cons_of_mem _ (List.mem_cons_of_mem _ (List.mem_cons_of_mem _ (List.mem_cons_of_mem _ (List.mem_cons_of_mem _ (List.mem_cons_of_mem _ (List.mem_cons_of_mem _ (List.mem_cons_of_mem _ (List.mem_cons_of_mem _ (List.mem_cons_of_mem _ List.mem_cons_self)))))))))) rfl
  have k1 : v21.cell? ⟨bm, 1, none⟩ = some (Value.slice (some ⟨gm, 0, none⟩) 2 2) := HR.out.cell _ _ _ 29 _ (List.mem_cons_of_mem _ (List.mem_cons_of_mem _ (List.mem_cons_of_mem _ (List.mem_cons_of_mem _ (List.mem_cons_of_mem _ (List.mem_cons_of_mem _ (List.mem_cons_of_mem _ (List.mem_cons_of_mem _ (List.mem_cons_of_mem _ (List.mem_cons_of_mem _ List.mem_cons_self)))))))))) rfl
  have hC := Stakes_any _ _ mM v21 HM.out
  rw [z9] at hC
  try dsimp only at hC
  go_wp2_with fail
  refine hC.mono ?_
  rintro e v22 ⟨sv, rfl, hF, PQ⟩
  have HR := Lib.hid (HR.out.pure PQ)
  have HPP := Lib.hid (HPP.out.pure PQ)
  have HM := Lib.hid (HM.out.pure PQ)
  have HF := Lib.hid (HF.out.pure PQ)
  have HP := Lib.hid (HP.out.trans PQ)
  obtain ⟨gS, cS, rfl, _, _⟩ := World.ownsRow.form hF (by decide)
  have HS := Lib.hid (owns_ints (l := [4, 5]) hF)
  clear hF
  clear hC PQ k0 k1
  have k0 : v22.cell? ⟨bf, 0, none⟩ = some (Value.int .i64 2) := HR.out.cell _ _ _ 29 _ (List.mem_cons_of_mem _ (List.mem_cons_of_mem _ (List.mem_cons_of_mem _ (List.mem_cons_of_mem _ (List.mem_cons_of_mem _ (List.mem_cons_of_mem _ (List.mem_cons_of_mem _ (List.mem_cons_of_mem _ (List.mem_cons_of_mem _ List.mem_cons_self))))))))) rfl
  have k1 : v22.cell? ⟨bf, 1, none⟩ = some (Value.slice (some ⟨gf, 0, none⟩) 3 3) := HR.out.cell _ _ _ 29 _ (List.mem_cons_of_mem _ (List.mem_cons_of_mem _ (List.mem_cons_of_mem _ (List.mem_cons_of_mem _ (List.mem_cons_of_mem _ (List.mem_cons_of_mem _ (List.mem_cons_of_mem _ (List.mem_cons_of_mem _ (List.mem_cons_of_mem _ List.mem_cons_self))))))))) rfl
  have hC := Stakes_any _ _ mF v22 HF.out
  rw [z10] at hC
  try dsimp only at hC
  go_wp2_with fail
  refine hC.mono ?_
  rintro e v23 ⟨sv2, rfl, hF, PQ⟩
  have HR := Lib.hid (HR.out.pure PQ)
  have HPP := Lib.hid (HPP.out.pure PQ)
  have HM := Lib.hid (HM.out.pure PQ)
  have HF := Lib.hid (HF.out.pure PQ)
  have HS := Lib.hid (HS.out.pure PQ)
  have HP := Lib.hid (HP.out.trans PQ)
  obtain ⟨a2, c2, rfl, _⟩ := owns_form hF
  clear hF
  clear hC PQ k0 k1
  have k0 : v23.cell? ⟨bm, 0, none⟩ = some (Value.int .i64 2) := HR.out.cell _ _ _ 29 _ (List.mem_cons_of_mem _ (List.mem_cons_of_mem _ (List.mem_cons_of_mem _ (List.mem_cons_of_mem _ (List.mem_cons_of_mem _ (List.mem_cons_of_mem _ (List.mem_cons_of_mem _ (List.mem_cons_of_mem _ (List.mem_cons_of_mem _ (List.mem_cons_of_mem _ List.mem_cons_self)))))))))) rfl
  have k1 : v23.cell? ⟨bm, 1, none⟩ = some (Value.slice (some ⟨gm, 0, none⟩) 2 2) := HR.out.cell _ _ _ 29 _ (List.mem_cons_of_mem _ (List.mem_cons_of_mem _ (List.mem_cons_of_mem _ (List.mem_cons_of_mem _ (List.mem_cons_of_mem _ (List.mem_cons_of_mem _ (List.mem_cons_of_mem _ (List.mem_cons_of_mem _ (List.mem_cons_of_mem _ (List.mem_cons_of_mem _ List.mem_cons_self)))))))))) rfl
  have hC := Chances_any _ _ mM v23 HM.out
  rw [z11] at hC
  try dsimp only at hC
  go_wp2_with fail
  refine hC.mono ?_
  rintro e v24 ⟨sv3, rfl, hF, PQ⟩
  have HR := Lib.hid (HR.out.pure PQ)
  have HPP := Lib.hid (HPP.out.pure PQ)
  have HM := Lib.hid (HM.out.pure PQ)
  have HF := Lib.hid (HF.out.pure PQ)
  have HS := Lib.hid (HS.out.pure PQ)
  have HP := Lib.hid (HP.out.trans PQ)
  obtain ⟨a3, c3, rfl, _⟩ := owns_form hF
  clear hF
  clear hC PQ k0 k1
  have k0 : v24.cell? ⟨bf, 0, none⟩ = some (Value.int .i64 2) := HR.out.cell _ _ _ 29 _ (List.mem_cons_of_mem _ (List.mem_cons_of_mem _ (List.mem_cons_of_mem _ (List.mem_cons_of_mem _ (List.mem_cons_of_mem _ (List.mem_cons_of_mem _ (List.mem_cons_of_mem _ (List.mem_cons_of_mem _ (List.mem_cons_of_mem _ List.mem_cons_self))))))))) rfl
  have k1 : v24.cell? ⟨bf, 1, none⟩ = some (Value.slice (some ⟨gf, 0, none⟩) 3 3) := HR.out.cell _ _ _ 29 _ (List.mem_cons_of_mem _ (List.mem_cons_of_mem _ (List.mem_cons_of_mem _ (List.mem_cons_of_mem _ (List.mem_cons_of_mem _ (List.mem_cons_of_mem _ (List.mem_cons_of_mem _ (List.mem_cons_of_mem _ (List.mem_cons_of_mem _ List.mem_cons_self))))))))) rfl
  have hC := Chances_any _ _ mF v24 HF.out
  rw [z12'] at hC
  try dsimp only at hC
  go_wp2_with fail
  refine hC.mono ?_
  rintro e v25 ⟨sv4, rfl, hF, PQ⟩
  have HR := Lib.hid (HR.out.pure PQ)
  have HPP := Lib.hid (HPP.out.pure PQ)
  have HM := Lib.hid (HM.out.pure PQ)
  have HF := Lib.hid (HF.out.pure PQ)
  have HS := Lib.hid (HS.out.pure PQ)
  have HP := Lib.hid (HP.out.trans PQ)
  obtain ⟨gC, cC, rfl, _, _⟩ := World.ownsRow.form hF (by decide)
  have HC := Lib.hid (owns_ints (l := [1, 1]) hF)
  clear hF
  clear hC PQ k0 k1
  have k0 : v25.cell? ⟨bf, 0, none⟩ = some (Value.int .i64 2) := HR.out.cell _ _ _ 29 _ (List.mem_cons_of_mem _ (List.mem_cons_of_mem _ (List.mem_cons_of_mem _ (List.mem_cons_of_mem _ (List.mem_cons_of_mem _ (List.mem_cons_of_mem _ (List.mem_cons_of_mem _ (List.mem_cons_of_mem _ (List.mem_cons_of_mem _ List.mem_cons_self))))))))) rfl
  have k1 : v25.cell? ⟨bf, 1, none⟩ = some (Value.slice (some ⟨gf, 0, none⟩) 3 3) := HR.out.cell _ _ _ 29 _ (List.mem_cons_of_mem _ (List.mem_cons_of_mem _ (List.mem_cons_of_mem _ (List.mem_cons_of_mem _ (List.mem_cons_of_mem _ (List.mem_cons_of_mem _ (List.mem_cons_of_mem _ (List.mem_cons_of_mem _ (List.mem_cons_of_mem _ List.mem_cons_self))))))))) rfl
  have hA := (Only.refl (fun _ => False) v25).alloc (.cells #[.int .i64 2, .int .i64 3] 2)
  have hL := lit_ints [2, 3] v25 (by decide)
  have hC := CheckChances_any _ _ _ _ mF [2, 3] _ (HF.out.pure hA) hL
  rw [z13] at hC
  try dsimp only at hC
  go_wp2_with fail
  refine hC.mono ?_
  rintro e v26 ⟨rfl, PQ⟩
  have HR := Lib.hid (HR.out.pure (hA.trans PQ))
  have HPP := Lib.hid (HPP.out.pure (hA.trans PQ))
  have HM := Lib.hid (HM.out.pure (hA.trans PQ))
  have HF := Lib.hid (HF.out.pure (hA.trans PQ))
  have HS := Lib.hid (HS.out.pure (hA.trans PQ))
  have HC := Lib.hid (HC.out.pure (hA.trans PQ))
  have HP := Lib.hid (HP.out.trans (hA.trans PQ))
  clear hC PQ k0 k1 hA hL
  go_upto_region 18 with fail
  have kbm0 := fun g => grow_cell (show v26.cell? ⟨bm, 0, none⟩ = some (Value.int .i64 2) from HR.out.cell _ _ _ 29 _ (List.mem_cons_of_mem _ (List.mem_cons_of_mem _ (List.mem_cons_of_mem _ (List.mem_cons_of_mem _ (List.mem_cons_of_mem _ (List.mem_cons_of_mem _ (List.mem_cons_of_mem _ (List.mem_cons_of_mem _ (List.mem_cons_of_mem _ (List.mem_cons_of_mem _ List.mem_cons_self)))))))))) rfl) g
  have kbm1 := fun g => grow_cell (show v26.cell? ⟨bm, 1, none⟩ = some (Value.slice (some ⟨gm, 0, none⟩) 2 2) from HR.out.cell _ _ _ 29 _ (List.mem_cons_of_mem _ (List.mem_cons_of_mem _ (List.mem_cons_of_mem _ (List.mem_cons_of_mem _ (List.mem_cons_of_mem _ (List.mem_cons_of_mem _ (List.mem_cons_of_mem _ (List.mem_cons_of_mem _ (List.mem_cons_of_mem _ (List.mem_cons_of_mem _ List.mem_cons_self)))))))))) rfl) g
  have kbf0 := fun g => grow_cell (show v26.cell? ⟨bf, 0, none⟩ = some (Value.int .i64 2) from HR.out.cell _ _ _ 29 _ (List.mem_cons_of_mem _ (List.mem_cons_of_mem _ (List.mem_cons_of_mem _ (List.mem_cons_of_mem _ (List.mem_cons_of_mem _ (List.mem_cons_of_mem _ (List.mem_cons_of_mem _ (List.mem_cons_of_mem _ (List.mem_cons_of_mem _ List.mem_cons_self))))))))) rfl) g
  have kbf1 := fun g => grow_cell (show v26.cell? ⟨bf, 1, none⟩ = some (Value.slice (some ⟨gf, 0, none⟩) 3 3) from HR.out.cell _ _ _ 29 _ (List.mem_cons_of_mem _ (List.mem_cons_of_mem _ (List.mem_cons_of_mem _ (List.mem_cons_of_mem _ (List.mem_cons_of_mem _ (List.mem_cons_of_mem _ (List.mem_cons_of_mem _ (List.mem_cons_of_mem _ (List.mem_cons_of_mem _ List.mem_cons_self))))))))) rfl) g
  have kxa0 := fun g => grow_cell (show v26.cell? ⟨xa, 0, none⟩ = some (Value.int .i64 3) from HR.out.cell _ _ _ 23 _ (List.mem_cons_of_mem _ (List.mem_cons_of_mem _ (List.mem_cons_of_mem _ (List.mem_cons_of_mem _ (List.mem_cons_of_mem _ (List.mem_cons_of_mem _ (List.mem_cons_of_mem _ (List.mem_cons_of_mem _ List.mem_cons_self)))))))) rfl) g
  have kxa1 := fun g => grow_cell (show v26.cell? ⟨xa, 1, none⟩ = some (Value.int .i64 5) from HR.out.cell _ _ _ 23 _ (List.mem_cons_of_mem _ (List.mem_cons_of_mem _ (List.mem_cons_of_mem _ (List.mem_cons_of_mem _ (List.mem_cons_of_mem _ (List.mem_cons_of_mem _ (List.mem_cons_of_mem _ (List.mem_cons_of_mem _ List.mem_cons_self)))))))) rfl) g
  have kxb0 := fun g => grow_cell (show v26.cell? ⟨xb, 0, none⟩ = some (Value.int .i64 2) from HR.out.cell _ _ _ 23 _ (List.mem_cons_of_mem _ (List.mem_cons_of_mem _ (List.mem_cons_of_mem _ (List.mem_cons_of_mem _ (List.mem_cons_of_mem _ (List.mem_cons_of_mem _ (List.mem_cons_of_mem _ List.mem_cons_self))))))) rfl) g
  have kxb1 := fun g => grow_cell (show v26.cell? ⟨xb, 1, none⟩ = some (Value.int .i64 3) from HR.out.cell _ _ _ 23 _ (List.mem_cons_of_mem _ (List.mem_cons_of_mem _ (List.mem_cons_of_mem _ (List.mem_cons_of_mem _ (List.mem_cons_of_mem _ (List.mem_cons_of_mem _ (List.mem_cons_of_mem _ List.mem_cons_self))))))) rfl) g
  have kxc0 := fun g => grow_cell (show v26.cell? ⟨xc, 0, none⟩ = some (Value.int .i64 1) from HR.out.cell _ _ _ 23 _ (List.mem_cons_of_mem _ (List.mem_cons_of_mem _ (List.mem_cons_of_mem _ (List.mem_cons_of_mem _ (List.mem_cons_of_mem _ (List.mem_cons_of_mem _ List.mem_cons_self)))))) rfl) g
  have kxc1 := fun g => grow_cell (show v26.cell? ⟨xc, 1, none⟩ = some (Value.int .i64 2) from HR.out.cell _ _ _ 23 _ (List.mem_cons_of_mem _ (List.mem_cons_of_mem _ (List.mem_cons_of_mem _ (List.mem_cons_of_mem _ (List.mem_cons_of_mem _ (List.mem_cons_of_mem _ List.mem_cons_self)))))) rfl) g
  have kxd0 := fun g => grow_cell (show v26.cell? ⟨xd, 0, none⟩ = some (Value.int .i64 5) from HR.out.cell _ _ _ 23 _ (List.mem_cons_of_mem _ (List.mem_cons_of_mem _ (List.mem_cons_of_mem _ (List.mem_cons_of_mem _ (List.mem_cons_of_mem _ List.mem_cons_self))))) rfl) g
  have kxd1 := fun g => grow_cell (show v26.cell? ⟨xd, 1, none⟩ = some (Value.int .i64 8) from HR.out.cell _ _ _ 23 _ (List.mem_cons_of_mem _ (List.mem_cons_of_mem _ (List.mem_cons_of_mem _ (List.mem_cons_of_mem _ (List.mem_cons_of_mem _ List.mem_cons_self))))) rfl) g
  have kxx0 := fun g => grow_cell (show v26.cell? ⟨xx, 0, none⟩ = some (Value.int .i64 1) from HR.out.cell _ _ _ 23 _ (List.mem_cons_of_mem _ (List.mem_cons_of_mem _ (List.mem_cons_of_mem _ (List.mem_cons_of_mem _ List.mem_cons_self)))) rfl) g
  have kxx1 := fun g => grow_cell (show v26.cell? ⟨xx, 1, none⟩ = some (Value.int .i64 2) from HR.out.cell _ _ _ 23 _ (List.mem_cons_of_mem _ (List.mem_cons_of_mem _ (List.mem_cons_of_mem _ (List.mem_cons_of_mem _ List.mem_cons_self)))) rfl) g
  have kxy0 := fun g => grow_cell (show v26.cell? ⟨xy, 0, none⟩ = some (Value.int .i64 31) from HR.out.cell _ _ _ 23 _ (List.mem_cons_of_mem _ (List.mem_cons_of_mem _ (List.mem_cons_of_mem _ List.mem_cons_self))) rfl) g
  have kxy1 := fun g => grow_cell (show v26.cell? ⟨xy, 1, none⟩ = some (Value.int .i64 50) from HR.out.cell _ _ _ 23 _ (List.mem_cons_of_mem _ (List.mem_cons_of_mem _ (List.mem_cons_of_mem _ List.mem_cons_self))) rfl) g
  have kxu0 := fun g => grow_cell (show v26.cell? ⟨xu, 0, none⟩ = some (Value.int .i64 1) from HR.out.cell _ _ _ 23 _ (List.mem_cons_of_mem _ (List.mem_cons_of_mem _ List.mem_cons_self)) rfl) g
  have kxu1 := fun g => grow_cell (show v26.cell? ⟨xu, 1, none⟩ = some (Value.int .i64 2) from HR.out.cell _ _ _ 23 _ (List.mem_cons_of_mem _ (List.mem_cons_of_mem _ List.mem_cons_self)) rfl) g
  have kxv0 := fun g => grow_cell (show v26.cell? ⟨xv, 0, none⟩ = some (Value.int .i64 3) from HR.out.cell _ _ _ 23 _ (List.mem_cons_of_mem _ List.mem_cons_self) rfl) g
  have kxv1 := fun g => grow_cell (show v26.cell? ⟨xv, 1, none⟩ = some (Value.int .i64 5) from HR.out.cell _ _ _ 23 _ (List.mem_cons_of_mem _ List.mem_cons_self) rfl) g
  have kxn0 := fun g => grow_cell (show v26.cell? ⟨xn, 0, none⟩ = some (Value.int .i64 (-3)) from HR.out.cell _ _ _ 23 _ (List.mem_cons_self) rfl) g
  have kxn1 := fun g => grow_cell (show v26.cell? ⟨xn, 1, none⟩ = some (Value.int .i64 1) from HR.out.cell _ _ _ 23 _ (List.mem_cons_self) rfl) g
  have hS := fun g => refStakes_any _ _ _ _ mM [4, 5] (grow v26 g) (HM.out.pure (grow_pure _ _)) (HS.out.pure (grow_pure _ _)) x1 rfl x2 x3
  have hC := fun g => refChances_any _ _ _ _ mF [1, 1] (grow v26 g) (HF.out.pure (grow_pure _ _)) (HC.out.pure (grow_pure _ _)) x4 rfl x5 x6 x7
  have HSS := Lib.hid hS; have HCC := Lib.hid hC
  clear hS hC
  refine wp_region_grow (by kernel_rfl) (by kernel_rfl) ?_
  repeat (go_big_quiet_step (first | exact calls_grow (of_any _ _ _) | exact calls_grow (HSS.out _) | exact calls_grow (HCC.out _)))
  refine wpQuiet_nil ?_
  rintro w' ⟨g, rfl⟩
  go_wp2_with fail
  go_ret
  exact ⟨rfl, HP.out.trans (grow_pure _ _)⟩
end Go.Proofs.Ythnjfekkngpbjaa

/- The law's own walk. -/
namespace Go.Proofs.Ythnjfekkngpbjaa
open Go.RowKit

abbrev argSh : Sh := .agg [(.agg [(.num .i64), (.num .i64)]), (.num .i64), (.agg [(.num .i64), (.num .i64)]), (.agg [(.num .i64), (.num .i64)]), (.agg [(.list (.agg [(.num .i64), (.num .i64)])), (.num .i64)]), (.num .i64), (.agg [(.num .i64), (.list (.agg [(.num .i64), (.num .i64), (.num .i64), .bool]))]), (.list (.num .i64)), (.list (.num .i64))]

set_option maxHeartbeats 4000000 in
set_option maxRecDepth 100000 in
theorem TopAnewOdds_any (D : Nat → Prop) (w : World) (ra lo hi : Fr) (step runner : Int) (p : OPool) (m : Market) (st ch : List Int) (pv qv sv chv : Value) (ns : List Int) (ss : List ByteArray) (hD : ∀ k, D k → k < w.heap.size)
    (h_pool : Pairs D w pv p.stakes) (h_market : Quotes D w qv m.quotes) (h_stakes : Ints D w sv st) (h_chances : Ints D w chv ch) (hE : Enc D w argSh [.int .i64 ra.1, .int .i64 ra.2, .int .i64 step, .int .i64 lo.1, .int .i64 lo.2, .int .i64 hi.1, .int .i64 hi.2, pv, .int .i64 p.cut, .int .i64 runner, .int .i64 m.runners, qv, sv, chv] ns ss) (hR : Room ns ss) :
    Calls Try.prog 3 #[.agg #[.int .i64 ra.1, .int .i64 ra.2, .int .i64 step, .int .i64 lo.1, .int .i64 lo.2, .int .i64 hi.1, .int .i64 hi.2, pv, .int .i64 p.cut, .int .i64 runner, .int .i64 m.runners, qv, sv, chv]] w fun e w' => e = .returned (.bool true) ∧ Below w.heap.size w w' := by
  obtain ⟨pv1, pv2, pv3, rfl⟩ : ∃ a n c, pv = .slice a n c := by obtain ⟨a, n, c, hh, _⟩ := h_pool; exact ⟨a, n, c, hh⟩
  obtain ⟨qv1, qv2, qv3, rfl⟩ : ∃ a n c, qv = .slice a n c := by obtain ⟨a, n, c, hh, _⟩ := h_market; exact ⟨a, n, c, hh⟩
  obtain ⟨sv1, sv2, sv3, rfl⟩ : ∃ a n c, sv = .slice a n c := by obtain ⟨a, n, c, hh, _⟩ := h_stakes; exact ⟨a, n, c, hh⟩
  obtain ⟨chv1, chv2, chv3, rfl⟩ : ∃ a n c, chv = .slice a n c := by obtain ⟨a, n, c, hh, _⟩ := h_chances; exact ⟨a, n, c, hh⟩
  have hb0 := World.alloc_heap_new w (.cells #[.int .i64 ra.1, .int .i64 ra.2, .int .i64 step, .int .i64 lo.1, .int .i64 lo.2, .int .i64 hi.1, .int .i64 hi.2, .slice pv1 pv2 pv3, .int .i64 p.cut, .int .i64 runner, .int .i64 m.runners, .slice qv1 qv2 qv3, .slice sv1 sv2 sv3, .slice chv1 chv2 chv3] 32)
  have hb1 := World.alloc_heap_new (w.alloc (.cells #[.int .i64 ra.1, .int .i64 ra.2, .int .i64 step, .int .i64 lo.1, .int .i64 lo.2, .int .i64 hi.1, .int .i64 hi.2, .slice pv1 pv2 pv3, .int .i64 p.cut, .int .i64 runner, .int .i64 m.runners, .slice qv1 qv2 qv3, .slice sv1 sv2 sv3, .slice chv1 chv2 chv3] 32)) (.cells #[.slice none 0 0, .slice none 0 0] 36)
  have hb2 := World.alloc_heap_new ((w.alloc (.cells #[.int .i64 ra.1, .int .i64 ra.2, .int .i64 step, .int .i64 lo.1, .int .i64 lo.2, .int .i64 hi.1, .int .i64 hi.2, .slice pv1 pv2 pv3, .int .i64 p.cut, .int .i64 runner, .int .i64 m.runners, .slice qv1 qv2 qv3, .slice sv1 sv2 sv3, .slice chv1 chv2 chv3] 32)).alloc (.cells #[.slice none 0 0, .slice none 0 0] 36)) (.cells #[.slice none 0 0, .slice none 0 0] 36)
  simp only [World.size_alloc] at hb1 hb2
  have up : ∀ {W : World} {k : Nat} {o o' : Obj}, W.heap[k]? = some o → (W.alloc o').heap[k]? = some o := fun h => (Below.heap_alloc _ _ _ (lt_of_block h)).trans h
  have hP : Pure w (((w.alloc (.cells #[.int .i64 ra.1, .int .i64 ra.2, .int .i64 step, .int .i64 lo.1, .int .i64 lo.2, .int .i64 hi.1, .int .i64 hi.2, .slice pv1 pv2 pv3, .int .i64 p.cut, .int .i64 runner, .int .i64 m.runners, .slice qv1 qv2 qv3, .slice sv1 sv2 sv3, .slice chv1 chv2 chv3] 32)).alloc (.cells #[.slice none 0 0, .slice none 0 0] 36)).alloc (.cells #[.slice none 0 0, .slice none 0 0] 36)) := (((Only.refl _ w).alloc _).alloc _).alloc _
  have HA0 := Lib.hid (show ArgsAt D _ w.heap.size ra lo hi step runner p m st ch (.slice pv1 pv2 pv3) (.slice qv1 qv2 qv3) (.slice sv1 sv2 sv3) (.slice chv1 chv2 chv3) from ⟨up (up hb0), h_pool.pure hP, h_market.pure hP, h_stakes.pure hP, h_chances.pure hP⟩)
  have HE0 := Lib.hid (hE.keep hP (fun _ _ _ f => f))
  have HB1 := Lib.hid (up (o' := .cells #[.slice none 0 0, .slice none 0 0] 36) hb1)
  have HB2 := Lib.hid hb2
  have HP := Lib.hid hP
  have hsz : (((w.alloc (.cells #[.int .i64 ra.1, .int .i64 ra.2, .int .i64 step, .int .i64 lo.1, .int .i64 lo.2, .int .i64 hi.1, .int .i64 hi.2, .slice pv1 pv2 pv3, .int .i64 p.cut, .int .i64 runner, .int .i64 m.runners, .slice qv1 qv2 qv3, .slice sv1 sv2 sv3, .slice chv1 chv2 chv3] 32)).alloc (.cells #[.slice none 0 0, .slice none 0 0] 36)).alloc (.cells #[.slice none 0 0, .slice none 0 0] 36)).heap.size = w.heap.size + 3 := by simp
  have HSZ := Lib.hid hsz; have HD := Lib.hid hD
  clear hb0 hb1 hb2 up hP h_pool h_market h_stakes h_chances hE hsz hD
  go_enter Try.func3, Try.ntmps3
  go_upto_region 2 with fail
  generalize (((w.alloc (.cells #[.int .i64 ra.1, .int .i64 ra.2, .int .i64 step, .int .i64 lo.1, .int .i64 lo.2, .int .i64 hi.1, .int .i64 hi.2, .slice pv1 pv2 pv3, .int .i64 p.cut, .int .i64 runner, .int .i64 m.runners, .slice qv1 qv2 qv3, .slice sv1 sv2 sv3, .slice chv1 chv2 chv3] 32)).alloc (.cells #[.slice none 0 0, .slice none 0 0] 36)).alloc (.cells #[.slice none 0 0, .slice none 0 0] 36)) = w1 at HA0 HE0 HB1 HB2 HP HSZ ⊢
  obtain ⟨hnw, hiw⟩ := nil_heap HB1.out
  obtain ⟨x0, x1, x2, x3, x4, x5, x6, x7, x8, x9, x10, x11, x12, x13⟩ := HA0.out.cells
  have hDw : ∀ k, D k → ¬ InHeap (w.heap.size + 1) w1 k := fun k hk hi => by have := HD.out k hk; have := hiw k hi; omega
  have hAll := all_any (w.heap.size + 1) _ _ _ _ _ _ _ _ _ _ _ _ _ _ D [] [] ns ss w1 hnw hDw HE0.out hR
  simp only [List.nil_append] at hAll
  have HIW := Lib.hid hiw; have HDW := Lib.hid hDw
  clear hnw hiw hDw
  go_wp2_with fail
  refine hAll.mono ?_
  rintro e W ⟨rfl, hHW, hSW⟩
  have hbx : ¬ InHeap (w.heap.size + 1) w1 w.heap.size := fun hi => by have := HIW.out _ hi; omega
  have hA1 := HA0.out.keep hSW.only HDW.out hbx
  have hE1 := HE0.out.keep hSW.only (fun k _ => HDW.out k)
  have hB2 := hSW.only.heap HB2.out (fun hi => by have := HIW.out _ hi; omega)
  have hlt := lt_of_block hA1.box
  have hszW : w.heap.size + 3 ≤ W.heap.size := by have := hSW.only.size; have := HSZ.out; omega
  have hBelow : Below w.heap.size w W := (HP.out.toBelow (Nat.le_refl _) (fun _ _ f => f)).trans (hSW.only.toBelow HP.out.size (fun k hk hi => by have := HIW.out k hi; omega))
  have hArgs : ArgsAt (fun k => k < W.heap.size) W w.heap.size ra lo hi step runner p m st ch (.slice pv1 pv2 pv3) (.slice qv1 qv2 qv3) (.slice sv1 sv2 sv3) (.slice chv1 chv2 chv3) := by
    have hd : ∀ k, D k → k < W.heap.size := fun k hk => by have := HD.out k hk; omega
    refine ⟨hA1.box, ?_, ?_, ?_, ?_⟩
    · obtain ⟨a, n, c, hv, h1, h2, h3, h4⟩ := hA1.pool
      exact ⟨a, n, c, hv, h1, h2, h3, fun i hi => by obtain ⟨b, o, e, d, r⟩ := h4 i hi; exact ⟨b, o, e, hd b d, r⟩⟩
    · obtain ⟨a, n, c, hv, h1, h2, h3, h4⟩ := hA1.market
      exact ⟨a, n, c, hv, h1, h2, h3, fun i hi => by obtain ⟨b, o, e, d, r⟩ := h4 i hi; exact ⟨b, o, e, hd b d, r⟩⟩
    · obtain ⟨a, n, c, hv, h1, h2, h3, h4⟩ := hA1.stakes
      exact ⟨a, n, c, hv, h1, h2, h3, fun i hi => by obtain ⟨b, o, e, d, r⟩ := h4 i hi; exact ⟨b, o, e, hd b d, r⟩⟩
    · obtain ⟨a, n, c, hv, h1, h2, h3, h4⟩ := hA1.chances
      exact ⟨a, n, c, hv, h1, h2, h3, fun i hi => by obtain ⟨b, o, e, d, r⟩ := h4 i hi; exact ⟨b, o, e, hd b d, r⟩⟩
  have HARGS := Lib.hid hArgs; have HBW := Lib.hid hBelow; have HSZW := Lib.hid hszW; have HB2W := Lib.hid hB2; have HE1 := Lib.hid hE1; have HA1 := Lib.hid hA1; have HHW := Lib.hid hHW; have HSW := Lib.hid hSW
  have HLT := Lib.hid hlt
  clear hArgs hBelow hszW hB2 hE1 hA1 hHW hSW hlt hbx hAll x0 x1 x2 x3 x4 x5 x6 x7 x8 x9 x10 x11 x12 x13
  have HQ0 := Lib.hid (Below.refl W.heap.size W)
  go_wp2_with fail
  refine (again_any 6 w.heap.size W W _ [] (enters_of Try.func6 (by kernel_rfl) rfl) (ask_Near HARGS.out HLT.out) HQ0.out).mono ?_
  rintro e y1 ⟨rfl, hQ⟩
  have HQ1 := Lib.hid hQ; clear hQ
  go_wp2_with fail
  refine (again_any 11 w.heap.size W y1 _ [] (enters_of Try.func11 (by kernel_rfl) rfl) (ask_CheckNear HARGS.out HLT.out) HQ1.out).mono ?_
  rintro e y2 ⟨rfl, hQ⟩
  have HQ2 := Lib.hid hQ; clear hQ
  go_wp2_with fail
  refine (again_any 13 w.heap.size W y2 _ [] (enters_of Try.func13 (by kernel_rfl) rfl) (ask_Round HARGS.out HLT.out) HQ2.out).mono ?_
  rintro e y3 ⟨rfl, hQ⟩
  have HQ3 := Lib.hid hQ; clear hQ
  go_wp2_with fail
  refine (again_any 15 w.heap.size W y3 _ [] (enters_of Try.func15 (by kernel_rfl) rfl) (ask_Simplest HARGS.out HLT.out) HQ3.out).mono ?_
  rintro e y4 ⟨rfl, hQ⟩
  have HQ4 := Lib.hid hQ; clear hQ
  go_wp2_with fail
  refine (again_any 17 w.heap.size W y4 _ [] (enters_of Try.func17 (by kernel_rfl) rfl) (ask_CheckPool HARGS.out HLT.out) HQ4.out).mono ?_
  rintro e y5 ⟨rfl, hQ⟩
  have HQ5 := Lib.hid hQ; clear hQ
  go_wp2_with fail
  refine (again_any 19 w.heap.size W y5 _ [] (enters_of Try.func19 (by kernel_rfl) rfl) (ask_Span HARGS.out HLT.out) HQ5.out).mono ?_
  rintro e y6 ⟨rfl, hQ⟩
  have HQ6 := Lib.hid hQ; clear hQ
  go_wp2_with fail
  refine (again_any 21 w.heap.size W y6 _ [] (enters_of Try.func21 (by kernel_rfl) rfl) (ask_Board HARGS.out HLT.out) HQ6.out).mono ?_
  rintro e y7 ⟨rfl, hQ⟩
  have HQ7 := Lib.hid hQ; clear hQ
  go_wp2_with fail
  refine (again_any 23 w.heap.size W y7 _ [] (enters_of Try.func23 (by kernel_rfl) rfl) (ask_CheckMarket HARGS.out HLT.out) HQ7.out).mono ?_
  rintro e y8 ⟨rfl, hQ⟩
  have HQ8 := Lib.hid hQ; clear hQ
  go_wp2_with fail
  refine (again_any 25 w.heap.size W y8 _ [] (enters_of Try.func25 (by kernel_rfl) rfl) (ask_Net HARGS.out HLT.out) HQ8.out).mono ?_
  rintro e y9 ⟨rfl, hQ⟩
  have HQ9 := Lib.hid hQ; clear hQ
  go_wp2_with fail
  refine (again_any 27 w.heap.size W y9 _ [] (enters_of Try.func27 (by kernel_rfl) rfl) (ask_CheckStakes HARGS.out HLT.out) HQ9.out).mono ?_
  rintro e y10 ⟨rfl, hQ⟩
  have HQ10 := Lib.hid hQ; clear hQ
  go_wp2_with fail
  refine (again_any 29 w.heap.size W y10 _ [] (enters_of Try.func29 (by kernel_rfl) rfl) (ask_Stakes HARGS.out HLT.out) HQ10.out).mono ?_
  rintro e y11 ⟨rfl, hQ⟩
  have HQ11 := Lib.hid hQ; clear hQ
  go_wp2_with fail
  refine (again_any 34 w.heap.size W y11 _ [] (enters_of Try.func34 (by kernel_rfl) rfl) (ask_CheckChances HARGS.out HLT.out) HQ11.out).mono ?_
  rintro e y12 ⟨rfl, hQ⟩
  have HQ12 := Lib.hid hQ; clear hQ
  go_wp2_with fail
  refine (again_any 36 w.heap.size W y12 _ [] (enters_of Try.func36 (by kernel_rfl) rfl) (ask_Chances HARGS.out HLT.out) HQ12.out).mono ?_
  rintro e y13 ⟨rfl, hQ⟩
  have HQ13 := Lib.hid hQ; clear hQ
  go_upto_region 4 with fail
  have hB := HQ13.out
  have his := (hB.block _ (lt_of_block HB2W.out)).trans HB2W.out
  obtain ⟨hni, hii⟩ := nil_heap his
  have hEi := HE1.out.keep (Only.below hB) (fun k _ hk hn => by have := HD.out k hk; have := HSZW.out; omega)
  have hbxI := (hB.block _ (lt_of_block HARGS.out.box)).trans HARGS.out.box
  have hDi : ∀ k, D k → ¬ InHeap (w.heap.size + 2) y13 k := fun k hk hi => by have := HD.out k hk; have := hii k hi; omega
  have hAll := all_any (w.heap.size + 2) _ _ _ _ _ _ _ _ _ _ _ _ _ _ D [] [] ns ss y13 hni hDi hEi hR
  simp only [List.nil_append] at hAll
  have HII := Lib.hid hii
  have hWas := HHW.out.keep (Only.below hB) (fun k hk hn => by have := InHeap.lt HHW.out hk; omega)
  have HWAS := Lib.hid hWas
  have hWr : ∀ k, InHeap (w.heap.size + 1) y13 k → k = w.heap.size + 1 ∨ w.heap.size + 3 ≤ k := fun k hk => by
    obtain ⟨vn, vs, hh, _, _⟩ := HHW.out
    have h1 := in_stay (Only.below hB) hh (by have := lt_of_block hh; omega) hk
    rcases HSW.out.rows k h1 with h | h
    · exact .inl (HIW.out k h)
    · right; have := HSZ.out; omega
  have HWR := Lib.hid hWr
  have x0 : y13.cell? ⟨w.heap.size, 0, none⟩ = some (.int .i64 ra.1) := cell_of_row _ _ _ _ _ _ hbxI
  have x1 : y13.cell? ⟨w.heap.size, 1, none⟩ = some (.int .i64 ra.2) := cell_of_row _ _ _ _ _ _ hbxI
  have x2 : y13.cell? ⟨w.heap.size, 2, none⟩ = some (.int .i64 step) := cell_of_row _ _ _ _ _ _ hbxI
  have x3 : y13.cell? ⟨w.heap.size, 3, none⟩ = some (.int .i64 lo.1) := cell_of_row _ _ _ _ _ _ hbxI
  have x4 : y13.cell? ⟨w.heap.size, 4, none⟩ = some (.int .i64 lo.2) := cell_of_row _ _ _ _ _ _ hbxI
  have x5 : y13.cell? ⟨w.heap.size, 5, none⟩ = some (.int .i64 hi.1) := cell_of_row _ _ _ _ _ _ hbxI
  have x6 : y13.cell? ⟨w.heap.size, 6, none⟩ = some (.int .i64 hi.2) := cell_of_row _ _ _ _ _ _ hbxI
  have x7 : y13.cell? ⟨w.heap.size, 7, none⟩ = some (.slice pv1 pv2 pv3) := cell_of_row _ _ _ _ _ _ hbxI
  have x8 : y13.cell? ⟨w.heap.size, 8, none⟩ = some (.int .i64 p.cut) := cell_of_row _ _ _ _ _ _ hbxI
  have x9 : y13.cell? ⟨w.heap.size, 9, none⟩ = some (.int .i64 runner) := cell_of_row _ _ _ _ _ _ hbxI
  have x10 : y13.cell? ⟨w.heap.size, 10, none⟩ = some (.int .i64 m.runners) := cell_of_row _ _ _ _ _ _ hbxI
  have x11 : y13.cell? ⟨w.heap.size, 11, none⟩ = some (.slice qv1 qv2 qv3) := cell_of_row _ _ _ _ _ _ hbxI
  have x12 : y13.cell? ⟨w.heap.size, 12, none⟩ = some (.slice sv1 sv2 sv3) := cell_of_row _ _ _ _ _ _ hbxI
  have x13 : y13.cell? ⟨w.heap.size, 13, none⟩ = some (.slice chv1 chv2 chv3) := cell_of_row _ _ _ _ _ _ hbxI
  clear hB his hni hii hEi hbxI hDi hWas hWr
  go_wp2_with fail
  refine hAll.mono ?_
  rintro e z ⟨rfl, hHI, hSI⟩
  clear hAll x0 x1 x2 x3 x4 x5 x6 x7 x8 x9 x10 x11 x12 x13
  have hWas := HWAS.out.keep hSI.only (fun k hk hi => by have := HII.out k hi; have := HWR.out k hk; omega)
  have hBz : Below w.heap.size w z := (HBW.out.trans (HQ13.out.mono (by have := HSZW.out; omega))).trans (hSI.only.toBelow (by have := HQ13.out.size; have := HSZW.out; omega) (fun k hk hi => by have := HII.out k hi; omega))
  obtain ⟨vn, vs, hh, hN, hS⟩ := hWas
  obtain ⟨un, us, hu, hN', hS'⟩ := hHI
  obtain ⟨c0, c1, _, _⟩ := heap_cells hh
  obtain ⟨d0, d1, _, _⟩ := heap_cells hu
  have hSame := same_any (fun _ => True) vn vs un us ns ss z ((ownsRow_slice hN).dom (fun _ _ _ => trivial) (by decide)) ((ownsRow_slice hS).dom (fun _ _ _ => trivial) (by decide)) ((ownsRow_slice hN').dom (fun _ _ _ => trivial) (by decide)) ((ownsRow_slice hS').dom (fun _ _ _ => trivial) (by decide))
  have HBZ := Lib.hid hBz
  clear hSI hh hu hN hS hN' hS' hBz
  go_wp2_with fail
  refine hSame.mono ?_
  rintro e z2 ⟨rfl, hP2⟩
  have HB2 := Lib.hid (HBZ.out.trans (hP2.toBelow HBZ.out.size (fun _ _ f => f)))
  clear hP2 hSame
  go_wp2_with fail
  refine (Works_any _).mono ?_
  rintro e z3 ⟨rfl, hP3⟩
  have HB3 := Lib.hid (HB2.out.trans (hP3.toBelow HB2.out.size (fun _ _ f => f)))
  clear hP3
  go_wp2
  go_ret
  exact ⟨rfl, HB3.out⟩
end Go.Proofs.Ythnjfekkngpbjaa

/- An argument that reads as data holds a value of its type's shape. -/
namespace Go.Proofs.Ythnjfekkngpbjaa
open Go.RowKit

mutual
/-- The shape of a type. -/
inductive HasSh (P : Program) : TypeId → Sh → Prop where
  | bool {t : TypeId} : P.underlying t = some .bool → HasSh P t .bool
  | int {t : TypeId} {k : IntKind} : P.underlying t = some (.int k) → HasSh P t (.num k)
  | text {t : TypeId} : P.underlying t = some .string → HasSh P t .text
  | list {t e : TypeId} {s : Sh} : P.underlying t = some (.slice e) → HasSh P e s → P.cellsOf e = s.size → 0 < s.size → HasSh P t (.list s)
  | agg {t : TypeId} {fs : Array Field} {ss : List Sh} : P.underlying t = some (.struct fs) → HasFs P 0 fs.toList ss → P.cellsOf t = Sh.sizes ss → HasSh P t (.agg ss)
inductive HasFs (P : Program) : Nat → List Field → List Sh → Prop where
  | nil {n : Nat} : HasFs P n [] []
  | cons {n : Nat} {f : Field} {fs : List Field} {s : Sh} {ss : List Sh} : f.offset = n → HasSh P f.type s → P.cellsOf f.type = s.size → HasFs P (n + s.size) fs ss → HasFs P n (f :: fs) (s :: ss)
end

/-- How much a reading holds. -/
theorem bulkAll_map {H : Type} (l : List (DataW H × List MemPlace)) (N : List (List Int × List ByteArray)) (h : ∀ (i : Nat) (x : DataW H × List MemPlace), l[i]? = some x → ∃ y : List Int × List ByteArray, N[i]? = some y ∧ y.1.length + y.2.length ≤ Rows.uptoBulk x.1) (hl : N.length = l.length) :
    (N.flatMap (·.1)).length + (N.flatMap (·.2)).length ≤ Rows.uptoBulkAll (l.map (·.1)) := by
  induction l generalizing N with
  | nil =>
    have : N = [] := List.eq_nil_of_length_eq_zero (by simpa using hl)
    subst this; simp
  | cons x l ih =>
    cases N with
    | nil => simp at hl
    | cons y N =>
      obtain ⟨y', hy, hb⟩ := h 0 x rfl
      simp only [List.getElem?_cons_zero, Option.some.injEq] at hy
      subst hy
      have := ih N (fun i x hx => h (i + 1) x (by simpa using hx)) (by simpa using hl)
      simp only [List.flatMap_cons, List.length_append, List.map_cons, Rows.uptoBulkAll]
      omega

section
variable {H : Type} {enc : TypeId × Value → H} {P : Program} {w : World} {spare : Nat → Bool} {held : Bool}

/-- What is wanted of one reading. -/
def Good (w : World) (s : Sh) (cs : List Value) (d : DataW H) : Prop := ∃ ns ss, Enc (fun k => k < w.heap.size) w s cs ns ss ∧ ns.length + ss.length ≤ Rows.uptoBulk d

theorem good_fields : ∀ (n : Nat) (fs : List Field) (ss : List Sh), HasFs P n fs ss → ∀ (cs : List Value) (xs : List (DataW H × List MemPlace)), cs.length = n + Sh.sizes ss → xs.length = fs.length →
    (∀ (i : Nat) (f : Field) (s : Sh) (x : DataW H × List MemPlace), fs[i]? = some f → ss[i]? = some s → xs[i]? = some x → Good w s ((cs.drop f.offset).take (P.cellsOf f.type)) x.1) →
    ∃ ns ts, Enc (fun k => k < w.heap.size) w (.agg ss) (cs.drop n) ns ts ∧ ns.length + ts.length ≤ Rows.uptoBulkAll (xs.map (·.1)) := by
  intro n fs
  induction fs generalizing n with
  | nil =>
    intro ss h cs xs hc hx _
    cases h
    have : xs = [] := List.eq_nil_of_length_eq_zero (by simpa using hx)
    subst this
    refine ⟨[], [], ?_, by simp⟩
    rw [List.drop_of_length_le (by simp [Sh.sizes] at hc; omega)]
    exact .nil
  | cons f fs ih =>
    intro ss h cs xs hc hx hg
    cases h with
    | @cons _ _ _ s ss ho hs hsz hr =>
      cases xs with
      | nil => simp at hx
      | cons x xs =>
        obtain ⟨n1, t1, e1, b1⟩ := hg 0 f s x rfl rfl rfl
        obtain ⟨n2, t2, e2, b2⟩ := ih (n + s.size) ss hr cs xs (by simp only [Sh.sizes] at hc; omega) (by simpa using hx) (fun i f s x h1 h2 h3 => hg (i + 1) f s x (by simpa using h1) (by simpa using h2) (by simpa using h3))
        refine ⟨n1 ++ n2, t1 ++ t2, ?_, ?_⟩
        · rw [ho, hsz] at e1
          have := Enc.cons e1 e2
          rwa [show (cs.drop n).take s.size ++ cs.drop (n + s.size) = cs.drop n by rw [← List.drop_drop, List.take_append_drop]] at this
        · simp only [List.length_append, List.map_cons, Rows.uptoBulkAll]; omega

theorem hasFs_len {P : Program} : ∀ {n : Nat} {fs : List Field} {ss : List Sh}, HasFs P n fs ss → ss.length = fs.length := by
  intro n fs
  induction fs generalizing n with
  | nil => intro ss h; cases h; rfl
  | cons f fs ih => intro ss h; cases h with | cons _ _ _ hr => simp [ih hr]
theorem hasFs_get {P : Program} : ∀ {n : Nat} {fs : List Field} {ss : List Sh}, HasFs P n fs ss → ∀ (i : Nat) (f : Field) (s : Sh), fs[i]? = some f → ss[i]? = some s → HasSh P f.type s := by
  intro n fs
  induction fs generalizing n with
  | nil => intro ss h i f s hf; simp at hf
  | cons f fs ih =>
    intro ss h i f' s' hf hs
    cases h with
    | cons _ h1 _ hr =>
      cases i with
      | zero => simp at hf hs; subst hf; subst hs; exact h1
      | succ i => exact ih hr i f' s' (by simpa using hf) (by simpa using hs)

theorem build_list {α : Type} {Q : Nat → α → Prop} : ∀ (n : Nat), (∀ i, i < n → ∃ r, Q i r) → ∃ l : List α, l.length = n ∧ ∀ (i : Nat) (r : α), l[i]? = some r → Q i r
  | 0, _ => ⟨[], rfl, fun i r h => by simp at h⟩
  | n + 1, h => by
    obtain ⟨l, hl, hq⟩ := build_list n (fun i hi => h i (by omega))
    obtain ⟨r, hr⟩ := h n (by omega)
    refine ⟨l ++ [r], by simp [hl], fun i x hx => ?_⟩
    by_cases hi : i < n
    · rw [List.getElem?_append_left (by omega)] at hx; exact hq i x hx
    · rw [List.getElem?_append_right (by omega)] at hx
      have hin : i = n := by
        have := (List.getElem?_eq_some_iff.1 hx).1
        simp at this; omega
      subst hin
      rw [hl, Nat.sub_self] at hx
      simp at hx; subst hx; exact hr

theorem good_of_trod : ∀ (fuel : Nat) (t : TypeId) (s : Sh) (cs : List Value) (x : DataW H × List MemPlace), HasSh P t s → DataW.trod enc P w 0 spare held fuel t cs = some x → Good w s cs x.1 := by
  intro fuel
  induction fuel with
  | zero => intro t s cs x _ h; simp [DataW.trod] at h
  | succ m ih =>
    intro t s cs x hs h
    cases hs with
    | bool ht =>
      obtain ⟨b, rfl, rfl⟩ := DataW.trod_bool ht h
      exact ⟨_, _, .bool b, by simp [Rows.uptoBulk]⟩
    | int ht =>
      obtain ⟨n, rfl, rfl, _⟩ := DataW.trod_int ht h
      exact ⟨_, _, .num _ n, by simp [Rows.uptoBulk]⟩
    | text ht =>
      obtain ⟨b, rfl, rfl, _⟩ := DataW.trod_string ht h
      exact ⟨_, _, .text b, by simp [Rows.uptoBulk]⟩
    | @agg _ fs ss ht hf hc =>
      obtain ⟨xs, n, hn, rfl, hcl, hxl, hx⟩ := DataW.trod_struct ht h
      obtain rfl : m = n := by omega
      obtain ⟨ns, ts, he, hb⟩ := good_fields (w := w) 0 fs.toList ss hf cs xs (by omega) (by simpa using hxl) (fun i f s x h1 h2 h3 => by
        have h4 := hx i f (by simpa using h1)
        rw [h3] at h4
        exact ih f.type s _ x (hasFs_get hf i f s h1 h2) h4)
      exact ⟨ns, ts, by simpa using he, by simp only [Rows.uptoBulk]; omega⟩
    | @list _ e s ht he hc hpos =>
      rcases DataW.trod_slice ht h with ⟨rfl, rfl⟩ | ⟨a, len, cap, elems, rest, n, hn, rfl, rfl, _, hle, hcm, hel, hx, _, _⟩
      · exact ⟨_, _, Enc.list (v := .slice none 0 0) [] ⟨none, 0, 0, rfl, by simp, Nat.le_refl _, by decide, fun h => absurd h (by decide)⟩ hpos (fun r hr => by simp at hr) (fun r hr => by simp at hr), by simp [Rows.uptoBulk]⟩
      · obtain rfl : m = n := by omega
        have each : ∀ i, i < len → ∃ r : List Value × List Int × List ByteArray, w.cells? 0 (a.add (i * P.cellsOf e)) (P.cellsOf e) = some r.1 ∧ Enc (fun k => k < w.heap.size) w s r.1 r.2.1 r.2.2 ∧
            ∀ x, elems[i]? = some x → r.2.1.length + r.2.2.length ≤ Rows.uptoBulk x.1 := fun i hi => by
          have h1 := hx i hi
          rw [List.getElem?_eq_getElem (by omega), Option.bind_eq_some_iff] at h1
          obtain ⟨ci, hci, hti⟩ := h1
          obtain ⟨ns, ts, he', hb'⟩ := ih e s ci _ he hti
          exact ⟨(ci, ns, ts), hci, he', fun x hx' => by rw [List.getElem?_eq_getElem (by omega)] at hx'; cases hx'; exact hb'⟩
        obtain ⟨rows, hrl, hrows⟩ := build_list len each
        have hlen : ∀ r, r ∈ rows → r.1.length = s.size := fun r hr => by
          obtain ⟨i, hi⟩ := List.getElem?_of_mem hr
          have := (World.cells?_some (hrows i r hi).1).2.1
          omega
        have hsl : SliceAt (fun k => k < w.heap.size) w (.slice (some a) len cap) s.size (rows.flatMap (·.1)) := by
          refine ⟨some a, len, cap, rfl, by rw [flat_length (·.1) s.size rows hlen, hrl], hle, hcm, fun h0 => ?_⟩
          have hr0 := hrows 0 _ (List.getElem?_eq_getElem (by omega))
          have hblk := World.cells?_block hr0.1 (by omega)
          have hc0 := (World.cells?_some hr0.1).2.2 0 (by omega)
          have hr0l := hlen _ (List.getElem_mem (by omega : 0 < rows.length))
          rw [List.getElem?_eq_getElem (by omega)] at hc0
          have hsp := World.cell?_spot hc0
          have ha : a.spot = none := by simpa [Addr.add] using hsp
          obtain ⟨b, off, spot⟩ := a
          simp only at ha
          subst ha
          refine ⟨b, off, rfl, by simpa [Addr.add] using hblk, fun j u hj => ?_⟩
          have hjl : j < rows.length * s.size := by
            have := (List.getElem?_eq_some_iff.1 hj).1
            rwa [flat_length (·.1) s.size rows hlen] at this
          have hk : j / s.size < rows.length := Nat.div_lt_of_lt_mul (by rw [Nat.mul_comm]; exact hjl)
          have hm : j % s.size < s.size := Nat.mod_lt _ hpos
          have hdm : j / s.size * s.size + j % s.size = j := by rw [Nat.mul_comm]; exact Nat.div_add_mod j s.size
          have hg := flat_get (·.1) s.size rows hlen (j / s.size) (j % s.size) hk hm
          rw [hdm, hj] at hg
          have hcell := (World.cells?_some (hrows _ _ (List.getElem?_eq_getElem hk)).1).2.2 (j % s.size) (by omega)
          rw [← hg] at hcell
          rw [hc, Addr.add_lit, ] at hcell
          rw [show ({ block := b, off := off + j / s.size * s.size, spot := none } : Addr).add (j % s.size) = ⟨b, off + j, none⟩ by rw [Addr.add_lit, Nat.add_assoc, hdm]] at hcell
          exact hcell
        refine ⟨_, _, Enc.list rows hsl hpos hlen (fun r hr => by obtain ⟨i, hi⟩ := List.getElem?_of_mem hr; exact (hrows i r hi).2.1), ?_⟩
        have hb := bulkAll_map elems (rows.map (·.2)) (fun i x hx' => by
          have hi : i < rows.length := by have := (List.getElem?_eq_some_iff.1 hx').1; omega
          exact ⟨(rows[i]).2, by simp [hi], (hrows i _ (List.getElem?_eq_getElem hi)).2.2 x hx'⟩) (by simp; omega)
        simp only [List.flatMap_map] at hb
        simp only [List.length_cons, Rows.uptoBulk]
        omega
end
end Go.Proofs.Ythnjfekkngpbjaa

/- Lists of numbers, out of their shape. -/
namespace Go.Proofs.Ythnjfekkngpbjaa
open Go.RowKit

theorem ints_of_enc {D : Nat → Prop} {w : World} {v : Value} {ns : List Int} {ss : List ByteArray} (h : Enc D w (.list (.num .i64)) [v] ns ss) : ∃ l, Ints D w v l := by
  cases h with
  | list rows hs hpos hlen hrows =>
    obtain ⟨l, hl, hq⟩ := build_list (Q := fun i (x : Int) => ∀ r, rows[i]? = some r → r.1 = [.int .i64 x]) rows.length (fun i hi => by
      obtain ⟨n, hn, _, _⟩ := (hrows _ (List.getElem_mem hi)).open_num'
      exact ⟨n, fun r hr => by rw [List.getElem?_eq_getElem hi] at hr; cases hr; exact hn⟩)
    obtain ⟨a, len, cap, rfl, hcl, hle, hcm, hc⟩ := hs
    have hsz : (Sh.num .i64).size = 1 := by simp [Sh.size]
    have hll : len = rows.length := by
      have := flat_length (·.1) (Sh.num .i64).size rows hlen
      rw [hcl, hsz] at this; omega
    refine ⟨l, a, len, cap, rfl, by omega, hle, by unfold maxLen at hcm; omega, fun i hi => ?_⟩
    obtain ⟨b, off, rfl, hD, hcell⟩ := hc (by omega)
    refine ⟨b, off, rfl, hD, ?_⟩
    have hi' : i < rows.length := by omega
    have hg := flat_get (·.1) (Sh.num .i64).size rows hlen i 0 hi' (by omega)
    have hil : i < l.length := by omega
    rw [hq i (l[i]) (List.getElem?_eq_getElem hil) _ (List.getElem?_eq_getElem hi')] at hg
    have := hcell _ _ hg
    rw [hsz] at this
    simpa [hil] using this

/-- A list of records, out of its shape: its cells, record by record. -/
theorem slice_of_enc {α : Type} {D : Nat → Prop} {w : World} {e : Sh} {v : Value} {ns : List Int} {ss : List ByteArray} (f : α → List Value) (k : Nat) (hk : e.size = k)
    (hf : ∀ cs ns ss, Enc D w e cs ns ss → ∃ x, cs = f x) (h : Enc D w (.list e) [v] ns ss) : ∃ l : List α, SliceAt D w v k (l.flatMap f) := by
  cases h with
  | list rows hs hpos hlen hrows =>
    have : ∀ rows : List (List Value × List Int × List ByteArray), (∀ r, r ∈ rows → Enc D w e r.1 r.2.1 r.2.2) → ∃ l : List α, l.flatMap f = rows.flatMap (·.1) := by
      intro rows
      induction rows with
      | nil => intro _; exact ⟨[], rfl⟩
      | cons r rows ih =>
        intro hr
        obtain ⟨l, hl⟩ := ih (fun q hq => hr q (List.mem_cons_of_mem _ hq))
        obtain ⟨x, hx⟩ := hf _ _ _ (hr r List.mem_cons_self)
        exact ⟨x :: l, by rw [List.flatMap_cons, List.flatMap_cons, hl, hx]⟩
    obtain ⟨l, hl⟩ := this rows hrows
    exact ⟨l, by rw [hl, ← hk]; exact hs⟩
end Go.Proofs.Ythnjfekkngpbjaa

/- The argument's data, out of its shape. -/
namespace Go.Proofs.Ythnjfekkngpbjaa
open Go.RowKit

abbrev quoteSh : Sh := .agg [.num .i64, .num .i64, .num .i64, .bool]
theorem pairs_of_enc {D : Nat → Prop} {w : World} {v : Value} {ns : List Int} {ss : List ByteArray} (h : Enc D w (.list (.agg [.num .i64, .num .i64])) [v] ns ss) : ∃ l, Pairs D w v l := by
  obtain ⟨l, hl⟩ := slice_of_enc pairC 2 rfl (fun cs ns ss he => by
    have h2 := he.len
    match cs, h2 with
    | [c0, c1], _ =>
      obtain ⟨_, _, _, _, _, _, e0, r0⟩ := Enc.split (l1 := [c0]) (l2 := [c1]) he rfl
      obtain ⟨_, _, _, _, _, _, e1, r1⟩ := Enc.split (l1 := [c1]) (l2 := []) r0 rfl
      obtain ⟨x, rfl, _, _⟩ := e0.open_num
      obtain ⟨y, rfl, _, _⟩ := e1.open_num
      exact ⟨(x, y), rfl⟩) h
  exact ⟨l, hl.pairs⟩
theorem quotes_of_enc {D : Nat → Prop} {w : World} {v : Value} {ns : List Int} {ss : List ByteArray} (h : Enc D w (.list quoteSh) [v] ns ss) : ∃ l, Quotes D w v l := by
  obtain ⟨l, hl⟩ := slice_of_enc quC 4 rfl (fun cs ns ss he => by
    have h2 := he.len
    match cs, h2 with
    | [c0, c1, c2, c3], _ =>
      obtain ⟨_, _, _, _, _, _, e0, r0⟩ := Enc.split (l1 := [c0]) (l2 := [c1, c2, c3]) he rfl
      obtain ⟨_, _, _, _, _, _, e1, r1⟩ := Enc.split (l1 := [c1]) (l2 := [c2, c3]) r0 rfl
      obtain ⟨_, _, _, _, _, _, e2, r2⟩ := Enc.split (l1 := [c2]) (l2 := [c3]) r1 rfl
      obtain ⟨_, _, _, _, _, _, e3, r3⟩ := Enc.split (l1 := [c3]) (l2 := []) r2 rfl
      obtain ⟨x, rfl, _, _⟩ := e0.open_num
      obtain ⟨y, rfl, _, _⟩ := e1.open_num
      obtain ⟨z, rfl, _, _⟩ := e2.open_num
      obtain ⟨b, rfl, _, _⟩ := e3.open_bool
      exact ⟨⟨x, y, z, b⟩, rfl⟩) h
  exact ⟨l, hl.quotes⟩
end Go.Proofs.Ythnjfekkngpbjaa

