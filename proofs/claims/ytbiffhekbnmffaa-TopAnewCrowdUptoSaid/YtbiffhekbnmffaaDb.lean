/-
  Works.
-/
import Derived.Test.YtbiffhekbnmffaaDa
import Derived.Deep.AppendLies
namespace Go.Proofs.Ytbiffhekbnmffaa
open Go.RowKit

theorem five_ints (w : World) (a b c d e : Int) : Ints (fun _ => True) (w.alloc (.cells #[.int .i64 a, .int .i64 b, .int .i64 c, .int .i64 d, .int .i64 e] 2)) (.slice (some ⟨w.heap.size, 0, none⟩) 5 5) [a, b, c, d, e] := by
  have h := World.alloc_heap_new w (.cells #[.int .i64 a, .int .i64 b, .int .i64 c, .int .i64 d, .int .i64 e] 2)
  refine ⟨_, 5, 5, rfl, rfl, Nat.le_refl _, by decide, fun i hi => ?_⟩
  rcases (by omega : i = 0 ∨ i = 1 ∨ i = 2 ∨ i = 3 ∨ i = 4) with rfl | rfl | rfl | rfl | rfl <;>
  exact ⟨w.heap.size, 0, rfl, trivial, cell_of_row _ _ _ _ _ _ h⟩

structure Ex (w : World) (b x : Nat) : Prop where
  box : w.heap[b]? = some (.cells #[.int .i64 5, .slice (some ⟨x, 0, none⟩) 5 5] 24 (0, 0))
  tk : Tk w x
theorem Ex.pure {w w' : World} {b x : Nat} (h : Ex w b x) (hp : Pure w w') : Ex w' b x := ⟨hp.heap h.box (fun f => f), h.tk.pure hp⟩
theorem Ex.cells {w : World} {b x : Nat} (h : Ex w b x) : w.cell? ⟨b, 0, none⟩ = some (.int .i64 5) ∧ w.cell? ⟨b, 1, none⟩ = some (.slice (some ⟨x, 0, none⟩) 5 5) := ⟨cell_of_row _ _ _ _ _ _ h.box, cell_of_row _ _ _ _ _ _ h.box⟩

set_option maxHeartbeats 8000000 in
set_option maxRecDepth 100000 in
theorem Works_any (w : World) : Calls Try.prog 34 #[] w fun e w' => e = .returned (.bool true) ∧ Pure w w' := by
  go_enter Try.func34, Try.ntmps34
  go_wp2_with fail
  refine (Hall_any _).mono ?_
  rintro e w1 ⟨x, rfl, hT, P1⟩
  have hA := (Only.refl (fun _ => False) w1).alloc (.cells #[.int .i64 5, .slice (some ⟨x, 0, none⟩) 5 5] 24)
  have HE := Lib.hid (show Ex _ w1.heap.size x from ⟨World.alloc_heap_new w1 (.cells #[.int .i64 5, .slice (some ⟨x, 0, none⟩) 5 5] 24), hT.pure hA⟩)
  have HP := Lib.hid (P1.trans hA)
  clear hT P1 hA
  go_upto_region 2 with fail
  generalize w1.alloc (.cells #[.int .i64 5, .slice (some ⟨x, 0, none⟩) 5 5] 24) = u0 at HE HP ⊢
  generalize w1.heap.size = b at HE ⊢
  obtain ⟨k0, k1⟩ := HE.out.cells
  have hA := (Only.refl (fun _ => False) u0).alloc (.cells #[.int .i64 2, .int .i64 3, .int .i64 2, .int .i64 4, .int .i64 0] 2)
  have hC := checkPlan_any _ _ _ _ H5 2 [2, 3, 2, 4, 0] _ (HE.out.pure hA).tk.people (five_ints u0 2 3 2 4 0)
  rw [x1] at hC
  go_wp2_with fail
  refine hC.mono ?_
  rintro e u1 ⟨rfl, PQ⟩
  have PP := hA.trans PQ
  have HE := Lib.hid (HE.out.pure PP); have HP := Lib.hid (HP.out.trans PP)
  clear hC PP PQ k0 k1 hA
  obtain ⟨k0, k1⟩ := HE.out.cells
  have hA := (Only.refl (fun _ => False) u1).alloc (.cells #[.int .i64 1, .int .i64 3, .int .i64 2, .int .i64 4, .int .i64 0] 2)
  have hC := checkPlan_any _ _ _ _ H5 2 [1, 3, 2, 4, 0] _ (HE.out.pure hA).tk.people (five_ints u1 1 3 2 4 0)
  rw [x2] at hC
  go_wp2_with fail
  refine hC.mono ?_
  rintro e u2 ⟨rfl, PQ⟩
  have PP := hA.trans PQ
  have HE := Lib.hid (HE.out.pure PP); have HP := Lib.hid (HP.out.trans PP)
  clear hC PP PQ k0 k1 hA
  obtain ⟨k0, k1⟩ := HE.out.cells
  have hA := (Only.refl (fun _ => False) u2).alloc (.cells #[.int .i64 3, .int .i64 3, .int .i64 3, .int .i64 4, .int .i64 0] 2)
  have hC := checkPlan_any _ _ _ _ H5 2 [3, 3, 3, 4, 0] _ (HE.out.pure hA).tk.people (five_ints u2 3 3 3 4 0)
  rw [x3] at hC
  go_wp2_with fail
  refine hC.mono ?_
  rintro e u3 ⟨rfl, PQ⟩
  have PP := hA.trans PQ
  have HE := Lib.hid (HE.out.pure PP); have HP := Lib.hid (HP.out.trans PP)
  clear hC PP PQ k0 k1 hA
  obtain ⟨k0, k1⟩ := HE.out.cells
  have hC := Machines_any _ _ H5 _ HE.out.tk.people
  rw [x4] at hC
  go_wp2_with fail
  refine hC.mono ?_
  rintro e u4 ⟨rfl, PQ⟩
  have PP := PQ
  have HE := Lib.hid (HE.out.pure PP); have HP := Lib.hid (HP.out.trans PP)
  clear hC PP PQ k0 k1
  have hrng := World.alloc_heap_new u4 (.cells #[.int .i64 1, .int .i64 2] 46)
  have PA := (Only.refl (fun _ => False) u4).alloc (.cells #[.int .i64 1, .int .i64 2] 46)
  have HE := Lib.hid (HE.out.pure PA); have HP := Lib.hid (HP.out.trans PA)
  have HG := Lib.hid hrng
  clear hrng PA
  go_upto_region 6 with fail
  generalize (u4.alloc (.cells #[.int .i64 1, .int .i64 2] 46)) = u5 at HE HP  HG ⊢
  generalize u4.heap.size = G at HG ⊢
  obtain ⟨k0, k1⟩ := HE.out.cells
  have hC := Plan_any _ _ H5 2 _ HE.out.tk.people
  rw [x5] at hC
  go_wp2_with fail
  refine hC.mono ?_
  rintro e u6 ⟨rv, rfl, hF, PQ⟩
  have PP := PQ
  have HE := Lib.hid (HE.out.pure PP); have HP := Lib.hid (HP.out.trans PP)
  have HG := Lib.hid (PP.heap HG.out (fun f => f))
  obtain ⟨gP, cP, rfl, _, _⟩ := World.ownsRow.form hF (by decide)
  have HP5 := Lib.hid (owns_ints hF)
  clear hF
  clear hC PP PQ k0 k1
  obtain ⟨k0, k1⟩ := HE.out.cells
  have hC := Plan_any _ _ H5 1 _ HE.out.tk.people
  rw [x6] at hC
  go_wp2_with fail
  refine hC.mono ?_
  rintro e u7 ⟨rv, rfl, hF, PQ⟩
  have PP := PQ
  have HE := Lib.hid (HE.out.pure PP); have HP := Lib.hid (HP.out.trans PP)
  have HG := Lib.hid (PP.heap HG.out (fun f => f))
  have HP5 := Lib.hid (HP5.out.pure PP)
  obtain ⟨rg, rc, rfl⟩ : ∃ a c, rv = .slice a 0 c := by obtain ⟨a, c, h, _⟩ := owns_form hF; exact ⟨a, c, h⟩
  clear hF
  clear hC PP PQ k0 k1
  obtain ⟨k0, k1⟩ := HE.out.cells
  have hC := Bound_any _ _ H5 2 3 _ HE.out.tk.people
  rw [x7] at hC
  go_wp2_with fail
  refine hC.mono ?_
  rintro e u8 ⟨rfl, PQ⟩
  have PP := PQ
  have HE := Lib.hid (HE.out.pure PP); have HP := Lib.hid (HP.out.trans PP)
  have HG := Lib.hid (PP.heap HG.out (fun f => f))
  have HP5 := Lib.hid (HP5.out.pure PP)
  clear hC PP PQ k0 k1
  obtain ⟨k0, k1⟩ := HE.out.cells
  have hC := Crowd_any _ _ H5 _ HE.out.tk.people
  rw [x8] at hC
  go_wp2_with fail
  refine hC.mono ?_
  rintro e u9 ⟨rfl, PQ⟩
  have PP := PQ
  have HE := Lib.hid (HE.out.pure PP); have HP := Lib.hid (HP.out.trans PP)
  have HG := Lib.hid (PP.heap HG.out (fun f => f))
  have HP5 := Lib.hid (HP5.out.pure PP)
  clear hC PP PQ k0 k1
  have hrng := World.alloc_heap_new u9 (.cells #[.int .i64 2, .int .i64 3] 46)
  have PA := (Only.refl (fun _ => False) u9).alloc (.cells #[.int .i64 2, .int .i64 3] 46)
  have HE := Lib.hid (HE.out.pure PA); have HP := Lib.hid (HP.out.trans PA)
  have HG := Lib.hid (PA.heap HG.out (fun f => f))
  have HP5 := Lib.hid (HP5.out.pure PA)
  have HC := Lib.hid hrng
  clear hrng PA
  go_upto_region 10 with fail
  generalize (u9.alloc (.cells #[.int .i64 2, .int .i64 3] 46)) = u10 at HE HP HG HP5 HC ⊢
  generalize u9.heap.size = C at HC ⊢
  obtain ⟨k0, k1⟩ := HE.out.cells
  have hA := (Only.refl (fun _ => False) u10).alloc (.cells #[.int .i64 2, .int .i64 3, .int .i64 2, .int .i64 4, .int .i64 3] 2)
  have hC := Serve_any _ _ _ _ H5 1 [2, 3, 2, 4, 3] _ (HE.out.pure hA).tk.people (five_ints u10 2 3 2 4 3)
  rw [x9] at hC
  go_wp2_with fail
  refine hC.mono ?_
  rintro e u11 ⟨rv, rfl, hF, PQ⟩
  have PP := hA.trans PQ
  have HE := Lib.hid (HE.out.pure PP); have HP := Lib.hid (HP.out.trans PP)
  have HG := Lib.hid (PP.heap HG.out (fun f => f))
  have HP5 := Lib.hid (HP5.out.pure PP)
  have HC := Lib.hid (PP.heap HC.out (fun f => f))
  obtain ⟨gS, cS, rfl, _, _⟩ := World.ownsRow.form hF (by decide)
  have HS := Lib.hid (owns_ints hF)
  clear hF
  clear hC PP PQ k0 k1 hA
  obtain ⟨k0, k1⟩ := HE.out.cells
  have hC := Late_any _ _ H5 2 0 _ HE.out.tk.people
  rw [x10] at hC
  go_wp2_with fail
  refine hC.mono ?_
  rintro e u12 ⟨rfl, PQ⟩
  have PP := PQ
  have HE := Lib.hid (HE.out.pure PP); have HP := Lib.hid (HP.out.trans PP)
  have HG := Lib.hid (PP.heap HG.out (fun f => f))
  have HP5 := Lib.hid (HP5.out.pure PP)
  have HC := Lib.hid (PP.heap HC.out (fun f => f))
  have HS := Lib.hid (HS.out.pure PP)
  clear hC PP PQ k0 k1
  obtain ⟨k0, k1⟩ := HE.out.cells
  have hC := Late_any _ _ H5 2 4 _ HE.out.tk.people
  rw [x11] at hC
  go_wp2_with fail
  refine hC.mono ?_
  rintro e u13 ⟨rfl, PQ⟩
  have PP := PQ
  have HE := Lib.hid (HE.out.pure PP); have HP := Lib.hid (HP.out.trans PP)
  have HG := Lib.hid (PP.heap HG.out (fun f => f))
  have HP5 := Lib.hid (HP5.out.pure PP)
  have HC := Lib.hid (PP.heap HC.out (fun f => f))
  have HS := Lib.hid (HS.out.pure PP)
  clear hC PP PQ k0 k1
  obtain ⟨k0, k1⟩ := HE.out.cells
  have hC := Room_any _ _ H5 2 3 _ HE.out.tk.people
  rw [x12] at hC
  go_wp2_with fail
  refine hC.mono ?_
  rintro e u14 ⟨rfl, PQ⟩
  have PP := PQ
  have HE := Lib.hid (HE.out.pure PP); have HP := Lib.hid (HP.out.trans PP)
  have HG := Lib.hid (PP.heap HG.out (fun f => f))
  have HP5 := Lib.hid (HP5.out.pure PP)
  have HC := Lib.hid (PP.heap HC.out (fun f => f))
  have HS := Lib.hid (HS.out.pure PP)
  clear hC PP PQ k0 k1
  obtain ⟨k0, k1⟩ := HE.out.cells
  have m0 : u14.cell? ⟨G, 0, none⟩ = some (.int .i64 1) := cell_of_row _ _ _ _ _ _ HG.out
  have m1 : u14.cell? ⟨G, 1, none⟩ = some (.int .i64 2) := cell_of_row _ _ _ _ _ _ HG.out
  have hC := refPlan_any _ x _ _ HE.out.tk HP5.out
  go_wp2_with fail
  refine hC.mono ?_
  rintro e v1 ⟨rfl, P1⟩
  have n0 : v1.cell? ⟨C, 0, none⟩ = some (.int .i64 2) := cell_of_row _ _ _ _ _ _ (P1.heap HC.out (fun f => f))
  have n1 : v1.cell? ⟨C, 1, none⟩ = some (.int .i64 3) := cell_of_row _ _ _ _ _ _ (P1.heap HC.out (fun f => f))
  have hA := (Only.refl (fun _ => False) v1).alloc (.cells #[.int .i64 2, .int .i64 3, .int .i64 0, .int .i64 4, .int .i64 0] 2)
  have hL := longs_any _ _ _ _ [2, 3, 0, 4, 0] _ (HS.out.pure (P1.trans hA)) (five_ints v1 2 3 0 4 0)
  have HP1 := Lib.hid ((HP.out.trans P1).trans hA)
  clear hC P1 k0 k1 m0 m1 hA
  go_wp2_with fail
  refine hL.mono ?_
  rintro e v2 ⟨rfl, P2⟩
  have HP2 := Lib.hid (HP1.out.trans P2)
  clear hL P2 n0 n1
  go_wp2
  go_ret
  exact ⟨rfl, HP2.out⟩
end Go.Proofs.Ytbiffhekbnmffaa
