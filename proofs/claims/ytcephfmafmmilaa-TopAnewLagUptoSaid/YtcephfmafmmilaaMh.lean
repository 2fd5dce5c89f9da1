/-
  Works.
-/
import Derived.Test.YtcephfmafmmilaaMf
import Derived.Test.YtcephfmafmmilaaMg
import Derived.Test.YtcephfmafmmilaaMd
import Derived.Test.YtcephfmafmmilaaMe
import Derived.Test.YtcephfmafmmilaaMa
import Derived.Test.YtcephfmafmmilaaLp
import Derived.Deep.AppendLies
namespace Go.Proofs.Ytcephfmafmmilaa
open Go.RowKit

theorem lit_ints (l : List Int) (w : World) (hl : l.length ≤ 1000) : Ints (fun _ => True) (w.alloc (.cells (l.map (Value.int .i64)).toArray 2)) (.slice (some ⟨w.heap.size, 0, none⟩) l.length l.length) l := by
  have h := World.alloc_heap_new w (.cells (l.map (Value.int .i64)).toArray 2)
  refine ⟨_, _, _, rfl, rfl, Nat.le_refl _, by omega, fun i hi => ⟨w.heap.size, 0, rfl, trivial, ?_⟩⟩
  rw [Nat.zero_add]
  exact arr_get h i hi

set_option maxHeartbeats 2000000 in
set_option maxRecDepth 100000 in
theorem Curves_any (w : World) : Calls Try.prog 64 #[] w fun e w' => ∃ g1 g2 g3, e = .returned (.tuple #[.slice (some ⟨g1, 0, none⟩) 3 3, .slice (some ⟨g2, 0, none⟩) 3 3, .slice (some ⟨g3, 0, none⟩) 6 6]) ∧
    Ints (fun _ => True) w' (.slice (some ⟨g1, 0, none⟩) 3 3) cA ∧ Ints (fun _ => True) w' (.slice (some ⟨g2, 0, none⟩) 3 3) cB ∧ Ints (fun _ => True) w' (.slice (some ⟨g3, 0, none⟩) 6 6) rR ∧ Pure w w' := by
  have h1 := lit_ints cA w (by decide)
  have p1 := (Only.refl (fun _ => False) w).alloc (.cells (cA.map (Value.int .i64)).toArray 2)
  have h2 := lit_ints cB (w.alloc (.cells (cA.map (Value.int .i64)).toArray 2)) (by decide)
  have p2 := (Only.refl (fun _ => False) (w.alloc (.cells (cA.map (Value.int .i64)).toArray 2))).alloc (.cells (cB.map (Value.int .i64)).toArray 2)
  have h3 := lit_ints rR ((w.alloc (.cells (cA.map (Value.int .i64)).toArray 2)).alloc (.cells (cB.map (Value.int .i64)).toArray 2)) (by decide)
  have p3 := (Only.refl (fun _ => False) ((w.alloc (.cells (cA.map (Value.int .i64)).toArray 2)).alloc (.cells (cB.map (Value.int .i64)).toArray 2))).alloc (.cells (rR.map (Value.int .i64)).toArray 2)
  rw [World.size_alloc] at h2
  rw [World.size_alloc, World.size_alloc] at h3
  have H := Lib.hid (show Ints (fun _ => True) _ _ cA ∧ Ints (fun _ => True) _ _ cB ∧ Ints (fun _ => True) _ _ rR ∧ Pure w _ from ⟨(h1.pure p2).pure p3, h2.pure p3, h3, (p1.trans p2).trans p3⟩)
  clear h1 h2 h3 p1 p2 p3
  go_enter Try.func64, Try.ntmps64
  go_wp2_with fail
  refine (of_any _ _ _ _).mono ?_
  rintro e w1 ⟨rfl, rfl⟩
  go_wp2_with fail
  refine (of_any _ _ _ _).mono ?_
  rintro e w1 ⟨rfl, rfl⟩
  go_wp2_with fail
  refine (of_any _ _ _ _).mono ?_
  rintro e w1 ⟨rfl, rfl⟩
  go_wp2
  go_ret3
  exact ⟨_, _, _, rfl, H.out⟩

theorem z12' : waitR [3, 4, 5] [cB] = (0, 18) := by decide +kernel

set_option maxHeartbeats 8000000 in
set_option maxRecDepth 100000 in
theorem Works_any (w : World) : Calls Try.prog 41 #[] w fun e w' => e = .returned (.bool true) ∧ Pure w w' := by
  go_enter Try.func41, Try.ntmps41
  go_wp2_with fail
  refine (Curves_any _).mono ?_
  rintro e t1 ⟨g1, g2, g3, rfl, h1, h2, h3, P1⟩
  have p1 := (Only.refl (fun _ => False) t1).alloc (.cells #[.slice (some ⟨g2, 0, none⟩) 3 3] 22)
  have l1 := one_list h2
  have p2 := (Only.refl (fun _ => False) (t1.alloc (.cells #[.slice (some ⟨g2, 0, none⟩) 3 3] 22))).alloc (.cells #[.slice (some ⟨g2, 0, none⟩) 3 3, .slice (some ⟨g2, 0, none⟩) 3 3] 22)
  have l2 := two_lists (h2.pure p1) (h2.pure p1)
  obtain ⟨u0, hu0⟩ : ∃ x, x = ((t1.alloc (.cells #[.slice (some ⟨g2, 0, none⟩) 3 3] 22)).alloc (.cells #[.slice (some ⟨g2, 0, none⟩) 3 3, .slice (some ⟨g2, 0, none⟩) 3 3] 22)) := ⟨_, rfl⟩
  have P12 := p1.trans p2
  rw [← hu0] at P12 p2 l2
  rw [World.size_alloc] at l2
  have HA := Lib.hid (h1.pure P12); have HB := Lib.hid (h2.pure P12); have HR := Lib.hid (h3.pure P12); have HO := Lib.hid (l1.pure p2); have HT := Lib.hid l2
  have HP := Lib.hid (P1.trans P12)
  have HU := Lib.hid hu0
  clear h1 h2 h3 P1 p1 l1 p2 l2 P12 hu0
  go_upto_region 3 with fail
  rw [← HU.out]
  clear HU
  generalize t1.heap.size = gl at HO HT ⊢
  have hC := Most_any _ _ cA 7 u0 HA.out
  rw [z1] at hC
  dsimp only at hC
  go_wp2_with fail
  refine hC.mono ?_
  rintro e u1 ⟨rfl, PQ⟩
  have PP := PQ
  have HA := Lib.hid (HA.out.pure PP)
  have HB := Lib.hid (HB.out.pure PP)
  have HR := Lib.hid (HR.out.pure PP)
  have HO := Lib.hid (HO.out.pure PP)
  have HT := Lib.hid (HT.out.pure PP)
  have HP := Lib.hid (HP.out.trans PP)
  clear hC PP PQ
  have hC := Least_any _ _ [cB, cB] 5 u1 HT.out
  rw [z2] at hC
  dsimp only at hC
  go_wp2_with fail
  refine hC.mono ?_
  rintro e u2 ⟨rfl, PQ⟩
  have PP := PQ
  have HA := Lib.hid (HA.out.pure PP)
  have HB := Lib.hid (HB.out.pure PP)
  have HR := Lib.hid (HR.out.pure PP)
  have HO := Lib.hid (HO.out.pure PP)
  have HT := Lib.hid (HT.out.pure PP)
  have HP := Lib.hid (HP.out.trans PP)
  clear hC PP PQ
  have hC := Rate_any _ _ cA true u2 HA.out
  rw [z3] at hC
  dsimp only at hC
  go_wp2_with fail
  refine hC.mono ?_
  rintro e u3 ⟨rfl, PQ⟩
  have PP := PQ
  have HA := Lib.hid (HA.out.pure PP)
  have HB := Lib.hid (HB.out.pure PP)
  have HR := Lib.hid (HR.out.pure PP)
  have HO := Lib.hid (HO.out.pure PP)
  have HT := Lib.hid (HT.out.pure PP)
  have HP := Lib.hid (HP.out.trans PP)
  have hq := World.alloc_heap_new u3 (.cells #[.int .i64 4, .int .i64 3] 42)
  have PA := (Only.refl (fun _ => False) u3).alloc (.cells #[.int .i64 4, .int .i64 3] 42)
  have HA := Lib.hid (HA.out.pure PA)
  have HB := Lib.hid (HB.out.pure PA)
  have HR := Lib.hid (HR.out.pure PA)
  have HO := Lib.hid (HO.out.pure PA)
  have HT := Lib.hid (HT.out.pure PA)
  have HP := Lib.hid (HP.out.trans PA)
  have HQ := Lib.hid hq
  clear hq PA
  go_upto_region 6 with fail
  generalize (u3.alloc (.cells #[.int .i64 4, .int .i64 3] 42)) = u33 at HA HB HR HO HT HP HQ ⊢
  generalize u3.heap.size = gq at HQ ⊢
  clear hC PP PQ
  have hC := Break_any _ _ _ _ cA rR u33 HA.out HR.out
  rw [z4] at hC
  dsimp only at hC
  go_wp2_with fail
  refine hC.mono ?_
  rintro e u4 ⟨rfl, PQ⟩
  have PP := PQ
  have HA := Lib.hid (HA.out.pure PP)
  have HB := Lib.hid (HB.out.pure PP)
  have HR := Lib.hid (HR.out.pure PP)
  have HO := Lib.hid (HO.out.pure PP)
  have HT := Lib.hid (HT.out.pure PP)
  have HQ := Lib.hid (PP.heap HQ.out (fun f => f))
  have HP := Lib.hid (HP.out.trans PP)
  clear hC PP PQ
  have hA0 := (Only.refl (fun _ => False) u4).alloc (.cells #[.int .i64 3, .int .i64 1, .int .i64 1, .int .i64 0] 2)
  have hL := lit_ints [3, 1, 1, 0] u4 (by decide)
  have hC := Break_any _ _ _ _ cA [3, 1, 1, 0] (u4.alloc (.cells #[.int .i64 3, .int .i64 1, .int .i64 1, .int .i64 0] 2)) (HA.out.pure hA0) hL
  rw [z5] at hC
  dsimp only at hC
  go_wp2_with fail
  refine (of_any _ _ _ _).mono ?_
  rintro e _ ⟨rfl, rfl⟩
  go_wp2_with fail
  refine hC.mono ?_
  rintro e u5 ⟨rfl, PQ⟩
  have PP := hA0.trans PQ
  have HA := Lib.hid (HA.out.pure PP)
  have HB := Lib.hid (HB.out.pure PP)
  have HR := Lib.hid (HR.out.pure PP)
  have HO := Lib.hid (HO.out.pure PP)
  have HT := Lib.hid (HT.out.pure PP)
  have HQ := Lib.hid (PP.heap HQ.out (fun f => f))
  have HP := Lib.hid (HP.out.trans PP)
  clear hC PP PQ hA0 hL
  have hC := Came_any _ _ cA 6 u5 HA.out
  rw [z6] at hC
  dsimp only at hC
  go_wp2_with fail
  refine hC.mono ?_
  rintro e u6 ⟨rv, rfl, hF, PQ⟩
  have PP := PQ
  have HA := Lib.hid (HA.out.pure PP)
  have HB := Lib.hid (HB.out.pure PP)
  have HR := Lib.hid (HR.out.pure PP)
  have HO := Lib.hid (HO.out.pure PP)
  have HT := Lib.hid (HT.out.pure PP)
  have HQ := Lib.hid (PP.heap HQ.out (fun f => f))
  have HP := Lib.hid (HP.out.trans PP)
  obtain ⟨gC, cC, rfl, _, _⟩ := World.ownsRow.form hF (by decide)
  have HC := Lib.hid (owns_ints hF)
  clear hF
  clear hC PP PQ
  have hC := Added_any _ _ _ _ cB rR u6 HB.out HR.out
  rw [z7] at hC
  dsimp only at hC
  go_wp2_with fail
  refine hC.mono ?_
  rintro e u7 ⟨rv, rfl, hF, PQ⟩
  have PP := PQ
  have HA := Lib.hid (HA.out.pure PP)
  have HB := Lib.hid (HB.out.pure PP)
  have HR := Lib.hid (HR.out.pure PP)
  have HO := Lib.hid (HO.out.pure PP)
  have HT := Lib.hid (HT.out.pure PP)
  have HQ := Lib.hid (PP.heap HQ.out (fun f => f))
  have HC := Lib.hid (HC.out.pure PP)
  have HP := Lib.hid (HP.out.trans PP)
  obtain ⟨gD, cD, rfl, _, _⟩ := World.ownsRow.form hF (by decide)
  have HD := Lib.hid (owns_ints hF)
  clear hF
  clear hC PP PQ
  have hA0 := (Only.refl (fun _ => False) u7).alloc (.cells #[.int .i64 0, .int .i64 1, .int .i64 3, .int .i64 0, .int .i64 2, .int .i64 2] 2)
  have hL := lit_ints [0, 1, 3, 0, 2, 2] u7 (by decide)
  have hC := CheckAdded_any _ _ _ _ _ _ cB rR [0, 1, 3, 0, 2, 2] (u7.alloc (.cells #[.int .i64 0, .int .i64 1, .int .i64 3, .int .i64 0, .int .i64 2, .int .i64 2] 2)) (HB.out.pure hA0) (HR.out.pure hA0) hL
  rw [z8] at hC
  go_wp2_with fail
  refine (of_any _ _ _ _).mono ?_
  rintro e _ ⟨rfl, rfl⟩
  go_wp2_with fail
  refine hC.mono ?_
  rintro e u8 ⟨rfl, PQ⟩
  have PP := hA0.trans PQ
  have HA := Lib.hid (HA.out.pure PP)
  have HB := Lib.hid (HB.out.pure PP)
  have HR := Lib.hid (HR.out.pure PP)
  have HO := Lib.hid (HO.out.pure PP)
  have HT := Lib.hid (HT.out.pure PP)
  have HQ := Lib.hid (PP.heap HQ.out (fun f => f))
  have HC := Lib.hid (HC.out.pure PP)
  have HD := Lib.hid (HD.out.pure PP)
  have HP := Lib.hid (HP.out.trans PP)
  clear hC PP PQ hA0 hL
  have hA0 := (Only.refl (fun _ => False) u8).alloc (.cells #[.int .i64 0, .int .i64 2, .int .i64 2, .int .i64 0, .int .i64 2, .int .i64 2] 2)
  have hL := lit_ints [0, 2, 2, 0, 2, 2] u8 (by decide)
  have hC := Seen_any _ _ _ _ rR [0, 2, 2, 0, 2, 2] (u8.alloc (.cells #[.int .i64 0, .int .i64 2, .int .i64 2, .int .i64 0, .int .i64 2, .int .i64 2] 2)) (HR.out.pure hA0) hL
  rw [z9] at hC
  dsimp only at hC
  go_wp2_with fail
  refine (of_any _ _ _ _).mono ?_
  rintro e _ ⟨rfl, rfl⟩
  go_wp2_with fail
  refine hC.mono ?_
  rintro e u9 ⟨rfl, PQ⟩
  have PP := hA0.trans PQ
  have HA := Lib.hid (HA.out.pure PP)
  have HB := Lib.hid (HB.out.pure PP)
  have HR := Lib.hid (HR.out.pure PP)
  have HO := Lib.hid (HO.out.pure PP)
  have HT := Lib.hid (HT.out.pure PP)
  have HQ := Lib.hid (PP.heap HQ.out (fun f => f))
  have HC := Lib.hid (HC.out.pure PP)
  have HD := Lib.hid (HD.out.pure PP)
  have HP := Lib.hid (HP.out.trans PP)
  clear hC PP PQ hA0 hL
  have hC := Wait_any _ _ _ _ cA [cB, cB] u9 HA.out HT.out
  rw [wait_ex] at hC
  dsimp only at hC
  go_wp2_with fail
  refine hC.mono ?_
  rintro e u10 ⟨rfl, PQ⟩
  have PP := PQ
  have HA := Lib.hid (HA.out.pure PP)
  have HB := Lib.hid (HB.out.pure PP)
  have HR := Lib.hid (HR.out.pure PP)
  have HO := Lib.hid (HO.out.pure PP)
  have HT := Lib.hid (HT.out.pure PP)
  have HQ := Lib.hid (PP.heap HQ.out (fun f => f))
  have HC := Lib.hid (HC.out.pure PP)
  have HD := Lib.hid (HD.out.pure PP)
  have HP := Lib.hid (HP.out.trans PP)
  clear hC PP PQ
  have hC := Late_any _ _ _ _ cA [cB] u10 HA.out HO.out
  rw [late_ex] at hC
  dsimp only at hC
  go_wp2_with fail
  refine hC.mono ?_
  rintro e u11 ⟨rfl, PQ⟩
  have PP := PQ
  have HA := Lib.hid (HA.out.pure PP)
  have HB := Lib.hid (HB.out.pure PP)
  have HR := Lib.hid (HR.out.pure PP)
  have HO := Lib.hid (HO.out.pure PP)
  have HT := Lib.hid (HT.out.pure PP)
  have HQ := Lib.hid (PP.heap HQ.out (fun f => f))
  have HC := Lib.hid (HC.out.pure PP)
  have HD := Lib.hid (HD.out.pure PP)
  have HP := Lib.hid (HP.out.trans PP)
  clear hC PP PQ
  have hA0 := (Only.refl (fun _ => False) u11).alloc (.cells #[.int .i64 3, .int .i64 4, .int .i64 5] 2)
  have hL := lit_ints [3, 4, 5] u11 (by decide)
  have hC := Wait_any _ _ _ _ [3, 4, 5] [cB] (u11.alloc (.cells #[.int .i64 3, .int .i64 4, .int .i64 5] 2)) hL (HO.out.pure hA0)
  rw [z12'] at hC
  dsimp only at hC
  go_wp2_with fail
  refine (of_any _ _ _ _).mono ?_
  rintro e _ ⟨rfl, rfl⟩
  go_wp2_with fail
  refine hC.mono ?_
  rintro e u12 ⟨rfl, PQ⟩
  have PP := hA0.trans PQ
  have HA := Lib.hid (HA.out.pure PP)
  have HB := Lib.hid (HB.out.pure PP)
  have HR := Lib.hid (HR.out.pure PP)
  have HO := Lib.hid (HO.out.pure PP)
  have HT := Lib.hid (HT.out.pure PP)
  have HQ := Lib.hid (PP.heap HQ.out (fun f => f))
  have HC := Lib.hid (HC.out.pure PP)
  have HD := Lib.hid (HD.out.pure PP)
  have HP := Lib.hid (HP.out.trans PP)
  clear hC PP PQ hA0 hL
  have hC := Behind_any _ _ _ _ cA [cB] u12 HA.out HO.out
  rw [behind_ex] at hC
  dsimp only at hC
  go_wp2_with fail
  refine hC.mono ?_
  rintro e u13 ⟨rv, rfl, hF, PQ⟩
  have PP := PQ
  have HA := Lib.hid (HA.out.pure PP)
  have HB := Lib.hid (HB.out.pure PP)
  have HR := Lib.hid (HR.out.pure PP)
  have HO := Lib.hid (HO.out.pure PP)
  have HT := Lib.hid (HT.out.pure PP)
  have HQ := Lib.hid (PP.heap HQ.out (fun f => f))
  have HC := Lib.hid (HC.out.pure PP)
  have HD := Lib.hid (HD.out.pure PP)
  have HP := Lib.hid (HP.out.trans PP)
  obtain ⟨gE, cE, rfl, _, _⟩ := World.ownsRow.form hF (by decide)
  have HE := Lib.hid (owns_ints hF)
  clear hF
  have m0 : u13.cell? ⟨gq, 0, none⟩ = some (.int .i64 4) := cell_of_row _ _ 0 _ _ _ HQ.out
  have m1 : u13.cell? ⟨gq, 1, none⟩ = some (.int .i64 3) := cell_of_row _ _ 1 _ _ _ HQ.out
  clear hC PP PQ
  have hC := longs_any _ _ _ _ rR u13 HC.out HR.out
  go_wp2_with fail
  refine hC.mono ?_
  rintro e u14 ⟨rfl, PQ⟩
  have PP := PQ
  have HA := Lib.hid (HA.out.pure PP)
  have HB := Lib.hid (HB.out.pure PP)
  have HR := Lib.hid (HR.out.pure PP)
  have HO := Lib.hid (HO.out.pure PP)
  have HT := Lib.hid (HT.out.pure PP)
  have HQ := Lib.hid (PP.heap HQ.out (fun f => f))
  have HC := Lib.hid (HC.out.pure PP)
  have HD := Lib.hid (HD.out.pure PP)
  have HE := Lib.hid (HE.out.pure PP)
  have HP := Lib.hid (HP.out.trans PP)
  clear hC PP PQ m0 m1
  have hA0 := (Only.refl (fun _ => False) u14).alloc (.cells #[.int .i64 0, .int .i64 2, .int .i64 2, .int .i64 0, .int .i64 2, .int .i64 2] 2)
  have hL := lit_ints [0, 2, 2, 0, 2, 2] u14 (by decide)
  have hC := longs_any _ _ _ _ [0, 2, 2, 0, 2, 2] (u14.alloc (.cells #[.int .i64 0, .int .i64 2, .int .i64 2, .int .i64 0, .int .i64 2, .int .i64 2] 2)) (HD.out.pure hA0) hL
  go_wp2_with fail
  refine (of_any _ _ _ _).mono ?_
  rintro e _ ⟨rfl, rfl⟩
  go_wp2_with fail
  refine hC.mono ?_
  rintro e u15 ⟨rfl, PQ⟩
  have PP := hA0.trans PQ
  have HA := Lib.hid (HA.out.pure PP)
  have HB := Lib.hid (HB.out.pure PP)
  have HR := Lib.hid (HR.out.pure PP)
  have HO := Lib.hid (HO.out.pure PP)
  have HT := Lib.hid (HT.out.pure PP)
  have HQ := Lib.hid (PP.heap HQ.out (fun f => f))
  have HC := Lib.hid (HC.out.pure PP)
  have HD := Lib.hid (HD.out.pure PP)
  have HE := Lib.hid (HE.out.pure PP)
  have HP := Lib.hid (HP.out.trans PP)
  clear hC PP PQ hA0 hL
  have hA0 := (Only.refl (fun _ => False) u15).alloc (.cells #[.int .i64 4, .int .i64 5, .int .i64 7] 2)
  have hL := lit_ints [4, 5, 7] u15 (by decide)
  have hC := longs_any _ _ _ _ [4, 5, 7] (u15.alloc (.cells #[.int .i64 4, .int .i64 5, .int .i64 7] 2)) (HE.out.pure hA0) hL
  go_wp2_with fail
  refine (of_any _ _ _ _).mono ?_
  rintro e _ ⟨rfl, rfl⟩
  go_wp2_with fail
  refine hC.mono ?_
  rintro e u16 ⟨rfl, PQ⟩
  have PP := hA0.trans PQ
  have HA := Lib.hid (HA.out.pure PP)
  have HB := Lib.hid (HB.out.pure PP)
  have HR := Lib.hid (HR.out.pure PP)
  have HO := Lib.hid (HO.out.pure PP)
  have HT := Lib.hid (HT.out.pure PP)
  have HQ := Lib.hid (PP.heap HQ.out (fun f => f))
  have HC := Lib.hid (HC.out.pure PP)
  have HD := Lib.hid (HD.out.pure PP)
  have HE := Lib.hid (HE.out.pure PP)
  have HP := Lib.hid (HP.out.trans PP)
  clear hC PP PQ hA0 hL
  go_wp2
  go_ret
  exact ⟨rfl, HP.out⟩
end Go.Proofs.Ytcephfmafmmilaa
