/-
  Works.
-/
import Derived.Test.YtngkmfddamaegaaPs
namespace Go.Proofs.Ytngkmfddamaegaa
open Go.RowKit

theorem ints_cells {D : Nat → Prop} {w : World} {g c : Nat} {x y : Int} (h : Ints D w (.slice (some ⟨g, 0, none⟩) 2 c) [x, y]) : w.cell? ⟨g, 0, none⟩ = some (.int .i64 x) ∧ w.cell? ⟨g, 0 + 1, none⟩ = some (.int .i64 y) := by
  obtain ⟨a, n, c', he, hl, _, _, h⟩ := h
  simp only [Value.slice.injEq] at he
  obtain ⟨rfl, rfl, rfl⟩ := he
  obtain ⟨b, off, hb, _, h0⟩ := h 0 (by decide)
  obtain ⟨b', off', hb', _, h1⟩ := h 1 (by decide)
  simp only [Option.some.injEq, Addr.mk.injEq, and_true] at hb hb'
  obtain ⟨rfl, rfl⟩ := hb
  obtain ⟨rfl, rfl⟩ := hb'
  exact ⟨h0, h1⟩
theorem Tk.cells {w : World} {x : Nat} {hi : Int} (h : Tk w x hi) : w.cell? ⟨x, 0, none⟩ = some (.int .i64 3) ∧ w.cell? ⟨x, 0 + 1, none⟩ = some (.int .i64 hi) ∧ w.cell? ⟨x, 0 + 2, none⟩ = some (.int .i64 10) ∧ w.cell? ⟨x, 0 + 3, none⟩ = some (.int .i64 12) :=
  ⟨cell_of_row _ _ _ _ _ _ h, cell_of_row _ _ _ _ _ _ h, cell_of_row _ _ _ _ _ _ h, cell_of_row _ _ _ _ _ _ h⟩
theorem l300 : wrap64 (netW P5 (5 + 10) - wrap64 (300 * 5)) = -100 := by decide +kernel
theorem l290 : wrap64 (netW P5 (5 + 10) - wrap64 (290 * 5)) < 0 := by decide +kernel

structure Ex (w : World) (b1 x1 b2 x2 b3 x3 : Nat) : Prop where
  f1 : Bx w b1 x1 1000 100
  t1 : Tk w x1 5
  f2 : Bx w b2 x2 1500 400
  t2 : Tk w x2 5
  f3 : Bx w b3 x3 1000 100
  t3 : Tk w x3 8
theorem Ex.pure {w w' : World} {b1 x1 b2 x2 b3 x3 : Nat} (h : Ex w b1 x1 b2 x2 b3 x3) (hp : Pure w w') : Ex w' b1 x1 b2 x2 b3 x3 :=
  ⟨h.f1.pure hp, h.t1.pure hp, h.f2.pure hp, h.t2.pure hp, h.f3.pure hp, h.t3.pure hp⟩
theorem Ex.p1 {w : World} {b1 x1 b2 x2 b3 x3 : Nat} (h : Ex w b1 x1 b2 x2 b3 x3) : PoolAt (fun _ => True) w (exV x1 1000 100) P5 := h.t1.pool 1000 100
theorem Ex.p2 {w : World} {b1 x1 b2 x2 b3 x3 : Nat} (h : Ex w b1 x1 b2 x2 b3 x3) : PoolAt (fun _ => True) w (exV x2 1500 400) Q5 := h.t2.pool 1500 400
theorem Ex.p3 {w : World} {b1 x1 b2 x2 b3 x3 : Nat} (h : Ex w b1 x1 b2 x2 b3 x3) : PoolAt (fun _ => True) w (exV x3 1000 100) P8 := h.t3.pool 1000 100

theorem two_ints (w : World) (x y : Int) : Ints (fun _ => True) (w.alloc (.cells #[.int .i64 x, .int .i64 y] 2)) (.slice (some ⟨w.heap.size, 0, none⟩) 2 2) [x, y] := by
  have h := World.alloc_heap_new w (.cells #[.int .i64 x, .int .i64 y] 2)
  exact ints2 (cell_of_row _ _ _ _ _ _ h) (cell_of_row _ _ _ _ _ _ h)

theorem two_pools {w : World} {x y : Nat} {hx hy : Int} (h1 : Tk w x hx) (h2 : Tk w y hy) :
    PoolsAt (fun _ => True) (w.alloc (.cells #[.slice (some ⟨x, 0, none⟩) 2 2, .int .i64 1000, .int .i64 100, .int .i64 0, .int .i64 10, .slice (some ⟨y, 0, none⟩) 2 2, .int .i64 1000, .int .i64 100, .int .i64 0, .int .i64 10] 24)) (.slice (some ⟨w.heap.size, 0, none⟩) 2 2) [exP hx 1000 100, exP hy 1000 100] := by
  have hP := (Only.refl (fun _ => False) w).alloc (.cells #[.slice (some ⟨x, 0, none⟩) 2 2, .int .i64 1000, .int .i64 100, .int .i64 0, .int .i64 10, .slice (some ⟨y, 0, none⟩) 2 2, .int .i64 1000, .int .i64 100, .int .i64 0, .int .i64 10] 24)
  have h := World.alloc_heap_new w (.cells #[.slice (some ⟨x, 0, none⟩) 2 2, .int .i64 1000, .int .i64 100, .int .i64 0, .int .i64 10, .slice (some ⟨y, 0, none⟩) 2 2, .int .i64 1000, .int .i64 100, .int .i64 0, .int .i64 10] 24)
  obtain ⟨t1, e1, r1⟩ := (h1.pure hP).pool 1000 100
  obtain ⟨t2, e2, r2⟩ := (h2.pure hP).pool 1000 100
  unfold exV at e1 e2
  simp only [Value.agg.injEq, Array.mk.injEq, List.cons.injEq, and_true] at e1 e2
  obtain ⟨rfl, _⟩ := e1
  obtain ⟨rfl, _⟩ := e2
  refine ⟨_, 2, 2, rfl, rfl, Nat.le_refl _, by decide, fun i hi => ?_⟩
  rcases (by omega : i = 0 ∨ i = 1) with rfl | rfl
  · exact ⟨w.heap.size, 0, _, rfl, trivial, cell_of_row _ _ _ _ _ _ h, cell_of_row _ _ _ _ _ _ h, cell_of_row _ _ _ _ _ _ h, cell_of_row _ _ _ _ _ _ h, cell_of_row _ _ _ _ _ _ h, r1⟩
  · exact ⟨w.heap.size, 0, _, rfl, trivial, cell_of_row _ _ _ _ _ _ h, cell_of_row _ _ _ _ _ _ h, cell_of_row _ _ _ _ _ _ h, cell_of_row _ _ _ _ _ _ h, cell_of_row _ _ _ _ _ _ h, r2⟩

set_option maxHeartbeats 8000000 in
set_option maxRecDepth 100000 in
theorem Works_any (w : World) : Calls Try.prog 39 #[] w fun e w' => e = .returned (.bool true) ∧ Pure w w' := by
  go_enter Try.func39, Try.ntmps39
  go_wp2_with fail
  refine (Pool_any 5 _).mono ?_
  rintro e w1 ⟨x1, rfl, hT1, P1⟩
  go_wp2_with fail
  refine (taxed_any _).mono ?_
  rintro e w2 ⟨x2, rfl, hT2, P2⟩
  go_wp2_with fail
  refine (Pool_any 8 _).mono ?_
  rintro e w3 ⟨x3, rfl, hT3, P3⟩
  have hb1 := World.alloc_heap_new w3 (.cells #[.slice (some ⟨x1, 0, none⟩) 2 2, .int .i64 1000, .int .i64 100, .int .i64 0, .int .i64 10] 24)
  have hb2 := World.alloc_heap_new (w3.alloc (.cells #[.slice (some ⟨x1, 0, none⟩) 2 2, .int .i64 1000, .int .i64 100, .int .i64 0, .int .i64 10] 24)) (.cells #[.slice (some ⟨x2, 0, none⟩) 2 2, .int .i64 1500, .int .i64 400, .int .i64 0, .int .i64 10] 24)
  have hb3 := World.alloc_heap_new ((w3.alloc (.cells #[.slice (some ⟨x1, 0, none⟩) 2 2, .int .i64 1000, .int .i64 100, .int .i64 0, .int .i64 10] 24)).alloc (.cells #[.slice (some ⟨x2, 0, none⟩) 2 2, .int .i64 1500, .int .i64 400, .int .i64 0, .int .i64 10] 24)) (.cells #[.slice (some ⟨x3, 0, none⟩) 2 2, .int .i64 1000, .int .i64 100, .int .i64 0, .int .i64 10] 24)
  simp only [World.size_alloc] at hb2 hb3
  have hPa : Pure w3 (((w3.alloc (.cells #[.slice (some ⟨x1, 0, none⟩) 2 2, .int .i64 1000, .int .i64 100, .int .i64 0, .int .i64 10] 24)).alloc (.cells #[.slice (some ⟨x2, 0, none⟩) 2 2, .int .i64 1500, .int .i64 400, .int .i64 0, .int .i64 10] 24)).alloc (.cells #[.slice (some ⟨x3, 0, none⟩) 2 2, .int .i64 1000, .int .i64 100, .int .i64 0, .int .i64 10] 24)) := (((Only.refl _ w3).alloc _).alloc _).alloc _
  have up : ∀ {W : World} {k : Nat} {o o' : Obj}, W.heap[k]? = some o → (W.alloc o').heap[k]? = some o := fun h => (Below.heap_alloc _ _ _ (lt_of_block h)).trans h
  have hE : Ex (((w3.alloc (.cells #[.slice (some ⟨x1, 0, none⟩) 2 2, .int .i64 1000, .int .i64 100, .int .i64 0, .int .i64 10] 24)).alloc (.cells #[.slice (some ⟨x2, 0, none⟩) 2 2, .int .i64 1500, .int .i64 400, .int .i64 0, .int .i64 10] 24)).alloc (.cells #[.slice (some ⟨x3, 0, none⟩) 2 2, .int .i64 1000, .int .i64 100, .int .i64 0, .int .i64 10] 24)) w3.heap.size x1 (w3.heap.size + 1) x2 (w3.heap.size + 1 + 1) x3 :=
    ⟨up (up hb1), (hT1.pure (P2.trans P3)).pure hPa, up hb2, (hT2.pure P3).pure hPa, hb3, hT3.pure hPa⟩
  have HE := Lib.hid hE
  have HP := Lib.hid (((P1.trans P2).trans P3).trans hPa)
  clear hb1 hb2 hb3 hPa up hE P1 P2 P3 hT1 hT2 hT3
  unfold exV
  go_upto_region 2 with fail
  generalize (((w3.alloc (.cells #[.slice (some ⟨x1, 0, none⟩) 2 2, .int .i64 1000, .int .i64 100, .int .i64 0, .int .i64 10] 24)).alloc (.cells #[.slice (some ⟨x2, 0, none⟩) 2 2, .int .i64 1500, .int .i64 400, .int .i64 0, .int .i64 10] 24)).alloc (.cells #[.slice (some ⟨x3, 0, none⟩) 2 2, .int .i64 1000, .int .i64 100, .int .i64 0, .int .i64 10] 24)) = u0 at HE HP ⊢
  generalize w3.heap.size = B at HE ⊢
  obtain ⟨k20, k21, k22, k23, k24⟩ := HE.out.f2.cells
  have hA := (Only.refl (fun _ => False) u0).alloc (.cells #[.int .i64 5, .int .i64 10] 2)
  have hC := Net_any _ _ _ _ Q5 [5, 10] _ (HE.out.pure hA).p2 (two_ints u0 5 10)
  rw [e1] at hC
  try unfold exV at hC
  go_wp2_with fail
  refine hC.mono ?_
  rintro e u1 ⟨rfl, PQ⟩
  have PP := hA.trans PQ
  have HE := Lib.hid (HE.out.pure PP); have HP := Lib.hid (HP.out.trans PP)
  clear hC PP PQ hA k20 k21 k22 k23 k24
  obtain ⟨k10, k11, k12, k13, k14⟩ := HE.out.f1.cells
  have hA := (Only.refl (fun _ => False) u1).alloc (.cells #[.int .i64 5, .int .i64 10] 2)
  have hC := Left_any _ _ _ _ P5 [5, 10] 0 290 _ (HE.out.pure hA).p1 (two_ints u1 5 10)
  rw [e2] at hC
  try unfold exV at hC
  go_wp2_with fail
  refine hC.mono ?_
  rintro e u2 ⟨rfl, PQ⟩
  have PP := hA.trans PQ
  have HE := Lib.hid (HE.out.pure PP); have HP := Lib.hid (HP.out.trans PP)
  clear hC PP PQ hA k10 k11 k12 k13 k14
  obtain ⟨k10, k11, k12, k13, k14⟩ := HE.out.f1.cells
  have hC := Dividend_any _ _ P5 0 _ HE.out.p1
  rw [e3] at hC
  try unfold exV at hC
  go_wp2_with fail
  refine hC.mono ?_
  rintro e u3 ⟨rfl, PQ⟩
  have PP := PQ
  have HE := Lib.hid (HE.out.pure PP); have HP := Lib.hid (HP.out.trans PP)
  clear hC PP PQ k10 k11 k12 k13 k14
  obtain ⟨k30, k31, k32, k33, k34⟩ := HE.out.f3.cells
  have hC := Board_any _ _ P8 _ HE.out.p3
  rw [e4] at hC
  try unfold exV at hC
  go_wp2_with fail
  refine hC.mono ?_
  rintro e u4 ⟨bv, rfl, hF, PQ⟩
  have PP := PQ
  have HE := Lib.hid (HE.out.pure PP); have HP := Lib.hid (HP.out.trans PP)
  obtain ⟨bg, bc, rfl, _, _⟩ := World.ownsRow.form hF (by decide)
  have HB := Lib.hid (owns_ints hF)
  clear hF
  clear hC PP PQ k30 k31 k32 k33 k34
  obtain ⟨k10, k11, k12, k13, k14⟩ := HE.out.f1.cells
  have hC := Spread_any _ _ P5 0 280 _ HE.out.p1
  rw [e5] at hC
  try unfold exV at hC
  go_wp2_with fail
  refine hC.mono ?_
  rintro e u5 ⟨rfl, PQ⟩
  have PP := PQ
  have HE := Lib.hid (HE.out.pure PP); have HP := Lib.hid (HP.out.trans PP)
  have HB := Lib.hid (HB.out.pure PP)
  have hrng := World.alloc_heap_new u5 (.cells #[.int .i64 0, .int .i64 560] 50)
  have PA := (Only.refl (fun _ => False) u5).alloc (.cells #[.int .i64 0, .int .i64 560] 50)
  have HE := Lib.hid (HE.out.pure PA); have HP := Lib.hid (HP.out.trans PA); have HB := Lib.hid (HB.out.pure PA)
  have HG := Lib.hid hrng
  go_upto_region 7 with fail
  generalize (u5.alloc (.cells #[.int .i64 0, .int .i64 560] 50)) = u6 at HE HP HB HG ⊢
  generalize u5.heap.size = G at HG ⊢
  clear hrng PA
  clear hC PP PQ k10 k11 k12 k13 k14
  obtain ⟨k10, k11, k12, k13, k14⟩ := HE.out.f1.cells
  have hC := Worst_any _ _ P5 0 300 _ HE.out.p1
  rw [e6] at hC
  try unfold exV at hC
  go_wp2_with fail
  refine hC.mono ?_
  rintro e u7 ⟨wv, rfl, hF, PQ⟩
  have PP := PQ
  have HE := Lib.hid (HE.out.pure PP); have HP := Lib.hid (HP.out.trans PP)
  have HB := Lib.hid (HB.out.pure PP)
  have HG := Lib.hid (PP.heap HG.out (fun f => f))
  obtain ⟨wg, wc, rfl, _, _⟩ := World.ownsRow.form hF (by decide)
  have HW := Lib.hid (owns_ints hF)
  clear hF
  clear hC PP PQ k10 k11 k12 k13 k14
  obtain ⟨k10, k11, k12, k13, k14⟩ := HE.out.f1.cells
  have hA := (Only.refl (fun _ => False) u7).alloc (.cells #[.int .i64 5, .int .i64 10] 2)
  have hC := CheckRefute_any _ _ _ _ P5 [5, 10] 0 290 _ (HE.out.pure hA).p1 (two_ints u7 5 10)
  rw [e7] at hC
  try unfold exV at hC
  go_wp2_with fail
  refine hC.mono ?_
  rintro e u8 ⟨rfl, PQ⟩
  have PP := hA.trans PQ
  have HE := Lib.hid (HE.out.pure PP); have HP := Lib.hid (HP.out.trans PP)
  have HB := Lib.hid (HB.out.pure PP)
  have HW := Lib.hid (HW.out.pure PP)
  have HG := Lib.hid (PP.heap HG.out (fun f => f))
  clear hC PP PQ hA k10 k11 k12 k13 k14
  obtain ⟨k10, k11, k12, k13, k14⟩ := HE.out.f1.cells
  have hA := (Only.refl (fun _ => False) u8).alloc (.cells #[.int .i64 4, .int .i64 10] 2)
  have hC := CheckRefute_any _ _ _ _ P5 [4, 10] 0 290 _ (HE.out.pure hA).p1 (two_ints u8 4 10)
  rw [e8] at hC
  try unfold exV at hC
  go_wp2_with fail
  refine hC.mono ?_
  rintro e u9 ⟨rfl, PQ⟩
  have PP := hA.trans PQ
  have HE := Lib.hid (HE.out.pure PP); have HP := Lib.hid (HP.out.trans PP)
  have HB := Lib.hid (HB.out.pure PP)
  have HW := Lib.hid (HW.out.pure PP)
  have HG := Lib.hid (PP.heap HG.out (fun f => f))
  clear hC PP PQ hA k10 k11 k12 k13 k14
  obtain ⟨k10, k11, k12, k13, k14⟩ := HE.out.f1.cells
  have hC := Refute_any _ _ P5 0 290 _ HE.out.p1
  rw [e9] at hC
  try unfold exV at hC
  go_wp2_with fail
  refine hC.mono ?_
  rintro e u10 ⟨rv, rfl, hF, PQ⟩
  have PP := PQ
  have HE := Lib.hid (HE.out.pure PP); have HP := Lib.hid (HP.out.trans PP)
  have HB := Lib.hid (HB.out.pure PP)
  have HW := Lib.hid (HW.out.pure PP)
  have HG := Lib.hid (PP.heap HG.out (fun f => f))
  obtain ⟨rg, rc, rfl, _, _⟩ := World.ownsRow.form hF (by decide)
  have HR := Lib.hid (owns_ints hF)
  clear hF
  clear hC PP PQ k10 k11 k12 k13 k14
  obtain ⟨k10, k11, k12, k13, k14⟩ := HE.out.f1.cells
  have hC := Refute_any _ _ P5 0 280 _ HE.out.p1
  rw [e10] at hC
  try unfold exV at hC
  go_wp2_with fail
  refine hC.mono ?_
  rintro e u11 ⟨qv, rfl, hF, PQ⟩
  have PP := PQ
  have HE := Lib.hid (HE.out.pure PP); have HP := Lib.hid (HP.out.trans PP)
  have HB := Lib.hid (HB.out.pure PP)
  have HW := Lib.hid (HW.out.pure PP)
  have HR := Lib.hid (HR.out.pure PP)
  have HG := Lib.hid (PP.heap HG.out (fun f => f))
  clear hF
  clear hC PP PQ k10 k11 k12 k13 k14
  obtain ⟨k10, k11, k12, k13, k14⟩ := HE.out.f1.cells
  have hC := Need_any _ _ P5 0 300 _ HE.out.p1
  rw [e11] at hC
  try unfold exV at hC
  go_wp2_with fail
  refine hC.mono ?_
  rintro e u12 ⟨rfl, PQ⟩
  have PP := PQ
  have HE := Lib.hid (HE.out.pure PP); have HP := Lib.hid (HP.out.trans PP)
  have HB := Lib.hid (HB.out.pure PP)
  have HW := Lib.hid (HW.out.pure PP)
  have HR := Lib.hid (HR.out.pure PP)
  have HG := Lib.hid (PP.heap HG.out (fun f => f))
  clear hC PP PQ k10 k11 k12 k13 k14
  obtain ⟨k30, k31, k32, k33, k34⟩ := HE.out.f3.cells
  obtain ⟨k10, k11, k12, k13, k14⟩ := HE.out.f1.cells
  have hA := (Only.refl (fun _ => False) u12).alloc (.cells #[.slice (some ⟨x3, 0, none⟩) 2 2, .int .i64 1000, .int .i64 100, .int .i64 0, .int .i64 10, .slice (some ⟨x1, 0, none⟩) 2 2, .int .i64 1000, .int .i64 100, .int .i64 0, .int .i64 10] 24)
  have hC := When_any _ _ [P8, P5] 0 250 _ (two_pools HE.out.t3 HE.out.t1)
  rw [e12] at hC
  try unfold exV at hC
  go_wp2_with fail
  refine hC.mono ?_
  rintro e u13 ⟨rfl, PQ⟩
  have PP := hA.trans PQ
  have HE := Lib.hid (HE.out.pure PP); have HP := Lib.hid (HP.out.trans PP)
  have HB := Lib.hid (HB.out.pure PP)
  have HW := Lib.hid (HW.out.pure PP)
  have HR := Lib.hid (HR.out.pure PP)
  have HG := Lib.hid (PP.heap HG.out (fun f => f))
  clear hC PP PQ hA k30 k31 k32 k33 k34 k10 k11 k12 k13 k14
  obtain ⟨k30, k31, k32, k33, k34⟩ := HE.out.f3.cells
  obtain ⟨k10, k11, k12, k13, k14⟩ := HE.out.f1.cells
  have hA := (Only.refl (fun _ => False) u13).alloc (.cells #[.slice (some ⟨x3, 0, none⟩) 2 2, .int .i64 1000, .int .i64 100, .int .i64 0, .int .i64 10, .slice (some ⟨x1, 0, none⟩) 2 2, .int .i64 1000, .int .i64 100, .int .i64 0, .int .i64 10] 24)
  have hC := When_any _ _ [P8, P5] 0 300 _ (two_pools HE.out.t3 HE.out.t1)
  rw [e13] at hC
  try unfold exV at hC
  go_wp2_with fail
  refine hC.mono ?_
  rintro e u14 ⟨rfl, PQ⟩
  have PP := hA.trans PQ
  have HE := Lib.hid (HE.out.pure PP); have HP := Lib.hid (HP.out.trans PP)
  have HB := Lib.hid (HB.out.pure PP)
  have HW := Lib.hid (HW.out.pure PP)
  have HR := Lib.hid (HR.out.pure PP)
  have HG := Lib.hid (PP.heap HG.out (fun f => f))
  clear hC PP PQ hA k30 k31 k32 k33 k34 k10 k11 k12 k13 k14
  obtain ⟨k10, k11, k12, k13, k14⟩ := HE.out.f1.cells
  obtain ⟨k30, k31, k32, k33, k34⟩ := HE.out.f3.cells
  have hA := (Only.refl (fun _ => False) u14).alloc (.cells #[.slice (some ⟨x1, 0, none⟩) 2 2, .int .i64 1000, .int .i64 100, .int .i64 0, .int .i64 10, .slice (some ⟨x3, 0, none⟩) 2 2, .int .i64 1000, .int .i64 100, .int .i64 0, .int .i64 10] 24)
  have hC := When_any _ _ [P5, P8] 0 10 _ (two_pools HE.out.t1 HE.out.t3)
  rw [e14] at hC
  try unfold exV at hC
  go_wp2_with fail
  refine hC.mono ?_
  rintro e u15 ⟨rfl, PQ⟩
  have PP := hA.trans PQ
  have HE := Lib.hid (HE.out.pure PP); have HP := Lib.hid (HP.out.trans PP)
  have HB := Lib.hid (HB.out.pure PP)
  have HW := Lib.hid (HW.out.pure PP)
  have HR := Lib.hid (HR.out.pure PP)
  have HG := Lib.hid (PP.heap HG.out (fun f => f))
  clear hC PP PQ hA k10 k11 k12 k13 k14 k30 k31 k32 k33 k34
  go_upto_region 18 with fail
  obtain ⟨k10, k11, k12, k13, k14⟩ := HE.out.f1.cells
  have g0 := fun g => grow_cell k10 g; have g1 := fun g => grow_cell k11 g; have g2 := fun g => grow_cell k12 g; have g3 := fun g => grow_cell k13 g; have g4 := fun g => grow_cell k14 g
  have g5 := fun g => grow_cell (show u15.cell? ⟨G, 0, none⟩ = some (.int .i64 0) from cell_of_row _ _ _ _ _ _ HG.out) g
  have g6 := fun g => grow_cell (show u15.cell? ⟨G, 1, none⟩ = some (.int .i64 560) from cell_of_row _ _ _ _ _ _ HG.out) g
  clear k10 k11 k12 k13 k14
  have hQ : ∀ (d : Option Tmp) (v : Value) (c : List PanicEntry) (a : Act) (w : World), True := fun _ _ _ _ _ => trivial
  refine mixed_start (by kernel_rfl) ?_
  refine mixed_take [0, 1, 2, 3, 4, 5, 6, 7, 8, 9, 10, 11] (by kernel_rfl) (Only.refl _ _).drew (fun d _ _ _ _ h => by cases d <;> exact h) 33 (by kernel_rfl) ?_
  simp only [picks, List.drop_succ_cons, List.drop_zero, List.take_succ_cons, List.take_zero, List.cons_append, List.nil_append]
  repeat (go_big_quiet_step (fail))
  refine wpQuiet_nil ?_
  refine mixed_force (i := 12) (by kernel_rfl) rfl ?_
  go_wp2_with fail
  have A0 : Pure u15 u15.drew := (Only.refl _ _).drew
  have A1 := A0.alloc (.cells #[.int .i64 210, .int .i64 110] 2)
  refine ⟨A1, ?_⟩
  have hL := Longs_any _ _ _ _ [210, 110] [210, 110] _ (HB.out.pure A1) (two_ints u15.drew 210 110) rfl
  refine mixed_force (i := 13) (by kernel_rfl) rfl ?_
  go_wp2_with fail
  refine hL.mono ?_
  rintro e v1 ⟨rfl, P1⟩
  have A2 := A1.trans P1
  have HA2 := Lib.hid A2
  clear hL P1 A1 A0 A2
  go_wp2_with fail
  refine ⟨HA2.out, ?_⟩
  refine mixed_take [14, 15, 16] (by kernel_rfl) HA2.out (fun d _ _ _ _ h => by cases d <;> exact h) 28 (by kernel_rfl) ?_
  simp only [picks, List.drop_succ_cons, List.drop_zero, List.take_succ_cons, List.take_zero, List.cons_append, List.nil_append]
  repeat (go_big_quiet_step (fail))
  refine wpQuiet_nil ?_
  refine mixed_force (i := 17) (by kernel_rfl) rfl ?_
  go_wp2_with fail
  refine (rg_any 0 560 _).mono ?_
  rintro e v2 ⟨rfl, P2⟩
  have A3 := HA2.out.trans P2
  have HA3 := Lib.hid A3
  clear P2 A3
  go_wp2_with fail
  refine ⟨HA3.out, ?_⟩
  refine mixed_take [18, 19, 20, 21, 22, 23, 24, 25, 26] (by kernel_rfl) HA3.out (fun d _ _ _ _ h => by cases d <;> exact h) 18 (by kernel_rfl) ?_
  simp only [picks, List.drop_succ_cons, List.drop_zero, List.take_succ_cons, List.take_zero, List.cons_append, List.nil_append]
  repeat (go_big_quiet_step (fail))
  refine wpQuiet_nil ?_
  obtain ⟨m0, m1, m2, m3⟩ := (HE.out.t1.pure HA3.out).cells
  obtain ⟨m4, m5⟩ := ints_cells (HW.out.pure HA3.out)
  have hC := leftOf5_any x1 0 2 wg 0 wc 5 10 300 v2 (by decide) (by decide) (by decide) (by decide) (by decide) (by decide) (by decide) m0 m1 m2 m3 m4 m5
  rw [l300] at hC
  unfold v5 at hC
  clear m0 m1 m2 m3 m4 m5
  refine mixed_force (i := 27) (by kernel_rfl) rfl ?_
  go_wp2_with fail
  refine hC.mono ?_
  rintro e v3 ⟨rfl, P3⟩
  have A4 := HA3.out.trans P3
  have HA4 := Lib.hid A4
  clear hC P3 A4
  go_wp2_with fail
  refine ⟨HA4.out, ?_⟩
  refine mixed_take [28, 29, 30, 31, 32] (by kernel_rfl) HA4.out (fun d _ _ _ _ h => by cases d <;> exact h) 12 (by kernel_rfl) ?_
  simp only [picks, List.drop_succ_cons, List.drop_zero, List.take_succ_cons, List.take_zero, List.cons_append, List.nil_append]
  repeat (go_big_quiet_step (fail))
  refine wpQuiet_nil ?_
  obtain ⟨m0, m1, m2, m3⟩ := (HE.out.t1.pure HA4.out).cells
  obtain ⟨m4, m5⟩ := ints_cells (HR.out.pure HA4.out)
  have hC := refRefute_any x1 0 2 rg 0 rc 5 10 290 v3 (by decide) (by decide) (by decide) (by decide) (by decide) (by decide) (by decide) m0 m1 m2 m3 m4 m5 l290
  unfold v5 at hC
  clear m0 m1 m2 m3 m4 m5
  refine mixed_force (i := 33) (by kernel_rfl) rfl ?_
  go_wp2_with fail
  refine hC.mono ?_
  rintro e v4 ⟨rfl, P4⟩
  have A5 := HA4.out.trans P4
  have HA5 := Lib.hid A5
  clear hC P4 A5
  go_wp2_with fail
  refine ⟨HA5.out, ?_⟩
  refine mixed_take [34, 35, 36, 37, 38, 39, 40, 41, 42, 43, 44] (by kernel_rfl) HA5.out (fun d _ _ _ _ h => by cases d <;> exact h) 0 (by kernel_rfl) ?_
  simp only [picks, List.drop_succ_cons, List.drop_zero, List.take_succ_cons, List.take_zero, List.cons_append, List.nil_append]
  repeat (go_big_quiet_step (fail))
  refine wpQuiet_nil ?_
  refine wpAnyG_done (by kernel_rfl) ?_
  clear g0 g1 g2 g3 g4 g5 g6
  go_wp2
  go_ret
  exact ⟨rfl, HP.out.trans HA5.out⟩
end Go.Proofs.Ytngkmfddamaegaa
