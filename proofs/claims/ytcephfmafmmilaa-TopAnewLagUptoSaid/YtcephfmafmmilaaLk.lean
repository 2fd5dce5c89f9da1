/-
  Rate.
-/
import Derived.Test.YtcephfmafmmilaaLj
namespace Go.Proofs.Ytcephfmafmmilaa
open Go.RowKit Go.Shelf

set_option maxHeartbeats 1000000 in
set_option maxRecDepth 100000 in
theorem Rate_any (D : Nat → Prop) (v : Value) (c : List Int) (comes : Bool) (w : World) (hv : Ints D w v c) :
    Calls Try.prog 16 #[v, .bool comes] w fun e w' => e = .returned (.tuple #[.agg #[.int .i64 (rateR c comes).1, .int .i64 (rateR c comes).2.1], .int .i64 (rateR c comes).2.2]) ∧ Pure w w' := by
  have hdef : rateR c comes = if checkCurve c ≠ 0 then (0, 0, checkCurve c) else ((rateOf c comes).1, (rateOf c comes).2, 0) := rfl
  have hP0 : Pure w (w.alloc (.cells #[.int .i64 0, .int .i64 0] 42)) := (Only.refl _ w).alloc _
  have hk0 := World.alloc_heap_new w (.cells #[.int .i64 0, .int .i64 0] 42)
  have hC := checkCurve_any D v c _ (hv.pure hP0)
  have hcu := @curve_of c
  have hR := hv
  obtain ⟨a, n, cap, rfl⟩ := hv.form
  obtain ⟨s, hs⟩ : ∃ s, checkCurve c = s := ⟨_, rfl⟩
  obtain ⟨R, hRR⟩ : ∃ R, rateR c comes = R := ⟨_, rfl⟩
  rw [hRR] at hdef ⊢
  rw [hs] at hC hdef hcu
  have HD := Lib.hid hdef; have HCU := Lib.hid hcu; have HR := Lib.hid hR; have HP0 := Lib.hid hP0; have HK0 := Lib.hid hk0
  clear hdef hcu hR hv hs hRR hP0 hk0
  go_enter Try.func16, Try.ntmps16
  go_wp2_with fail
  refine hC.mono ?_
  rintro e w1 ⟨rfl, P1⟩
  have hk1 := P1.heap HK0.out (fun f => f)
  have Q1 := Lib.hid (HP0.out.trans P1)
  have HK1 := Lib.hid hk1
  have d0 : w1.cell? ⟨w.heap.size, 0, none⟩ = some (.int .i64 0) := cell_of_row _ _ _ _ _ _ hk1
  have d1 : w1.cell? ⟨w.heap.size, 1, none⟩ = some (.int .i64 0) := cell_of_row _ _ _ _ _ _ hk1
  have f0 : ∀ j, w1.frozen? ⟨w.heap.size, j, none⟩ = false := fun j => arr_frozen hk1 j
  clear hC P1 hk1
  by_cases hs0 : s = 0
  · subst hs0
    obtain ⟨c1, c6, cb⟩ := HCU.out rfl
    have hra := rate_any D _ c comes w1 (HR.out.pure Q1.out) c1 c6 cb
    obtain ⟨q, hq⟩ : ∃ q, rateOf c comes = q := ⟨_, rfl⟩
    have hd := HD.out
    rw [if_neg (by simp), hq] at hd
    rw [hq] at hra
    have HD2 := Lib.hid hd
    clear c1 c6 cb hq hd d0 d1 f0
    go_wp2_with fail
    refine hra.mono ?_
    rintro e w2 ⟨rfl, P2⟩
    have hk2 := P2.heap HK1.out (fun f => f)
    have Q2 := Lib.hid (Q1.out.trans P2)
    have d0 : w2.cell? ⟨w.heap.size, 0, none⟩ = some (.int .i64 0) := cell_of_row _ _ _ _ _ _ hk2
    have d1 : w2.cell? ⟨w.heap.size, 1, none⟩ = some (.int .i64 0) := cell_of_row _ _ _ _ _ _ hk2
    have f0 : ∀ j, w2.frozen? ⟨w.heap.size, j, none⟩ = false := fun j => arr_frozen hk2 j
    have s1 := heap_setCell_same _ _ 0 _ _ (.int .i64 q.1) hk2
    have s2 := heap_setCell_same _ _ 1 _ _ (.int .i64 q.2) s1
    have e0 := cell_of_row _ _ 0 _ _ _ s2
    have e1 := cell_of_row _ _ 1 _ _ _ s2
    simp only [List.setIfInBounds_toArray, List.set_cons_zero, List.set_cons_succ, List.getElem?_toArray, List.getElem?_cons_zero, List.getElem?_cons_succ] at e0 e1
    have HO := Lib.hid (Only.setCell (Only.setCell Q2.out (.inr (Nat.le_refl _)) (p := ⟨w.heap.size, 0, none⟩) (.int .i64 q.1)) (.inr (Nat.le_refl _)) (p := ⟨w.heap.size, 1, none⟩) (.int .i64 q.2))
    clear hra P2 hk2 s1 s2
    go_wp2
    refine bodyPost_ret (v := .tuple #[.agg #[.int .i64 q.1, .int .i64 q.2], .int .i64 0]) ?_ rfl ⟨by rw [HD2.out], HO.out⟩
    simp [results, Try.f16, go_sem, e0, e1]
  · have hsb : (s == 0) = false := by simpa using hs0
    have HX := Lib.hid (show R = (0, 0, s) from by rw [HD.out, if_pos hs0])
    have s1 := heap_setCell_same _ _ 0 _ _ (.int .i64 0) HK1.out
    have s2 := heap_setCell_same _ _ 1 _ _ (.int .i64 0) s1
    have e0 := cell_of_row _ _ 0 _ _ _ s2
    have e1 := cell_of_row _ _ 1 _ _ _ s2
    simp only [List.setIfInBounds_toArray, List.set_cons_zero, List.set_cons_succ, List.getElem?_toArray, List.getElem?_cons_zero, List.getElem?_cons_succ] at e0 e1
    have HO := Lib.hid (Only.setCell (Only.setCell Q1.out (.inr (Nat.le_refl _)) (p := ⟨w.heap.size, 0, none⟩) (.int .i64 0)) (.inr (Nat.le_refl _)) (p := ⟨w.heap.size, 1, none⟩) (.int .i64 0))
    clear s1 s2
    go_wp2
    refine bodyPost_ret (v := .tuple #[.agg #[.int .i64 0, .int .i64 0], .int .i64 s]) ?_ rfl ⟨by rw [HX.out], HO.out⟩
    simp [results, Try.f16, go_sem, e0, e1]
end Go.Proofs.Ytcephfmafmmilaa
