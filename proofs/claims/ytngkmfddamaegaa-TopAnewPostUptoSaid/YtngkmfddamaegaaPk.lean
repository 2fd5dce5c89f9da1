/-
  Spread, Need.
-/
import Derived.Test.YtngkmfddamaegaaPj
namespace Go.Proofs.Ytngkmfddamaegaa
open Go.RowKit

def bestT (p : Pool) (runner dividend : Int) : Tot := (leastTo (bestF p dividend) (totalsOf p runner.toNat)).1
def spreadR (p : Pool) (runner dividend : Int) : Int × Int × Int :=
  if checkW p runner dividend ≠ 0 then (0, 0, checkW p runner dividend) else (leftW p (worstT p runner dividend).1 (worstT p runner dividend).2.1 dividend, leftW p (bestT p runner dividend).1 (bestT p runner dividend).2.2 dividend, 0)

theorem rng_stored {w W : World} {k : Nat} (c1 : W.heap[k]? = some (.cells #[.int .i64 0, .int .i64 0] 50 (0, 0))) (hP : Pure w W) (hk : w.heap.size ≤ k) (lo hi : Int) :
    ((W.setCell ⟨k, 0, none⟩ (.int .i64 lo)).setCell ⟨k, 1, none⟩ (.int .i64 hi)).cell? ⟨k, 0, none⟩ = some (.int .i64 lo) ∧ ((W.setCell ⟨k, 0, none⟩ (.int .i64 lo)).setCell ⟨k, 1, none⟩ (.int .i64 hi)).cell? ⟨k, 1, none⟩ = some (.int .i64 hi) ∧
    Pure w ((W.setCell ⟨k, 0, none⟩ (.int .i64 lo)).setCell ⟨k, 1, none⟩ (.int .i64 hi)) := by
  have s1 := heap_setCell_same _ _ 0 _ _ (.int .i64 lo) c1
  have s2 := heap_setCell_same _ _ 1 _ _ (.int .i64 hi) s1
  exact ⟨cell_of_row _ _ _ _ _ _ s2, cell_of_row _ _ _ _ _ _ s2, (hP.setCell (.inr hk) _).setCell (.inr hk) _⟩

theorem leftOf_grow {b : Nat} {p : Pool} {r : Nat} {w : World} (h : Desk b p r w) (t : Tot) (on dividend : Int) (g : Growth) :
    Calls Try.prog 52 #[.pointer (some ⟨b, 0, none⟩), .agg #[.int .i64 t.1, .int .i64 t.2.1, .int .i64 t.2.2], .int .i64 on, .int .i64 dividend] (grow w g) fun e w'' => e = .returned (.int .i64 (leftW p t.1 on dividend)) ∧ ∃ g', w'' = grow w g' :=
  calls_grow (leftOf_any (h.pure (grow_pure w g)) t on dividend)

set_option maxHeartbeats 1000000 in
set_option maxRecDepth 100000 in
theorem Spread_any (D : Nat → Prop) (v : Value) (p : Pool) (runner dividend : Int) (w : World) (hv : PoolAt D w v p) :
    Calls Try.prog 21 #[v, .int .i64 runner, .int .i64 dividend] w fun e w' => e = .returned (.tuple #[.agg #[.int .i64 (spreadR p runner dividend).1, .int .i64 (spreadR p runner dividend).2.1], .int .i64 (spreadR p runner dividend).2.2]) ∧ Pure w w' := by
  have hC0 := hv
  obtain ⟨tk, rfl, hr⟩ := hv
  obtain ⟨a, len, cap, rfl, hlen, _, hm, _⟩ := hr
  have hP0 : Pure w ((w.alloc (Obj.cells #[.slice a len cap, .int .i64 p.per, .int .i64 p.pence, .int .i64 p.keep, .int .i64 p.step] 24)).alloc (.cells #[.int .i64 0, .int .i64 0] 50)) := ((Only.refl _ w).alloc _).alloc _
  have hk0 := World.alloc_heap_new (w.alloc (Obj.cells #[.slice a len cap, .int .i64 p.per, .int .i64 p.pence, .int .i64 p.keep, .int .i64 p.step] 24)) (.cells #[.int .i64 0, .int .i64 0] 50)
  rw [World.size_alloc] at hk0
  have hC := open_any D _ p runner dividend _ (hC0.pure hP0)
  have HP0 := Lib.hid hP0; have HK := Lib.hid hk0
  clear hP0 hlen hC0 hk0
  go_enter Try.func21, Try.ntmps21
  go_wp2_with fail
  refine hC.mono ?_
  rintro e w1 ⟨P1, ⟨h0, rfl⟩ | ⟨h0, b, rfl, hD⟩⟩
  · have Q1 := Lib.hid (HP0.out.trans P1)
    have HR := Lib.hid (show spreadR p runner dividend = (0, 0, checkW p runner dividend) by unfold spreadR; rw [if_pos h0])
    have hk1 := P1.heap HK.out (fun f => f)
    have HX := Lib.hid (rng_stored hk1 Q1.out (Nat.le_succ _) 0 0)
    have c0 : w1.cell? ⟨w.heap.size + 1, 0, none⟩ = some (.int .i64 0) := cell_of_row _ _ _ _ _ _ hk1
    have c1 : w1.cell? ⟨w.heap.size + 1, 1, none⟩ = some (.int .i64 0) := cell_of_row _ _ _ _ _ _ hk1
    have fr : ∀ j, w1.frozen? ⟨w.heap.size + 1, j, none⟩ = false := fun j => by simp [World.frozen?, hk1]
    clear hC P1 hk1
    generalize checkW p runner dividend = ce at h0 HR ⊢
    go_wp2
    obtain ⟨e0, e1, hPP⟩ := HX.out
    refine bodyPost_ret (v := .tuple #[.agg #[.int .i64 0, .int .i64 0], .int .i64 ce]) ?_ rfl ⟨by rw [HR.out], hPP⟩
    simp [results, Try.f21, go_sem, e0, e1]
  · have Q1 := Lib.hid (HP0.out.trans P1)
    have HR := Lib.hid (show spreadR p runner dividend = (leftW p (worstT p runner dividend).1 (worstT p runner dividend).2.1 dividend, leftW p (bestT p runner dividend).1 (bestT p runner dividend).2.2 dividend, 0) by unfold spreadR; rw [if_neg (by rw [h0]; simp)])
    have HK1 := Lib.hid (P1.heap HK.out (fun f => f))
    have hW := worst_any hD dividend
    rw [show (leastTo (worstF p dividend) (totalsOf p runner.toNat)).1 = worstT p runner dividend from rfl] at hW
    have HD := Lib.hid hD
    clear hC P1 h0 hD
    generalize worstT p runner dividend = t at hW HR
    go_wp2_with fail
    refine hW.mono ?_
    rintro e w2 ⟨rfl, P2⟩
    have hB := best_any (HD.out.pure P2) dividend
    rw [show (leastTo (bestF p dividend) (totalsOf p runner.toNat)).1 = bestT p runner dividend from rfl] at hB
    generalize bestT p runner dividend = u at hB HR
    unfold totV at hB ⊢
    go_wp2_with fail
    refine hB.mono ?_
    rintro e w3 ⟨rfl, P3⟩
    have P23 := P2.trans P3
    have hP4 : Pure w3 ((w3.alloc (.cells #[.int .i64 t.1, .int .i64 t.2.1, .int .i64 t.2.2] 79)).alloc (.cells #[.int .i64 u.1, .int .i64 u.2.1, .int .i64 u.2.2] 79)) := ((Only.refl _ w3).alloc _).alloc _
    have c0 : ((w3.alloc (.cells #[.int .i64 t.1, .int .i64 t.2.1, .int .i64 t.2.2] 79)).alloc (.cells #[.int .i64 u.1, .int .i64 u.2.1, .int .i64 u.2.2] 79)).heap[w3.heap.size]? = some (.cells #[.int .i64 t.1, .int .i64 t.2.1, .int .i64 t.2.2] 79 (0, 0)) := (Below.heap_alloc _ _ _ (by simp)).trans (World.alloc_heap_new w3 _)
    have c1 : ((w3.alloc (.cells #[.int .i64 t.1, .int .i64 t.2.1, .int .i64 t.2.2] 79)).alloc (.cells #[.int .i64 u.1, .int .i64 u.2.1, .int .i64 u.2.2] 79)).heap[w3.heap.size + 1]? = some (.cells #[.int .i64 u.1, .int .i64 u.2.1, .int .i64 u.2.2] 79 (0, 0)) := by
      have := World.alloc_heap_new (w3.alloc (.cells #[.int .i64 t.1, .int .i64 t.2.1, .int .i64 t.2.2] 79)) (.cells #[.int .i64 u.1, .int .i64 u.2.1, .int .i64 u.2.2] 79)
      rwa [World.size_alloc] at this
    have hk4 := (P23.trans hP4).heap HK1.out (fun f => f)
    have HD4 := Lib.hid (HD.out.pure (P23.trans hP4))
    have Q4 := Lib.hid (Q1.out.trans (P23.trans hP4))
    clear hW hB P2 P3 P23 hP4
    go_wp2_with fail
    generalize ((w3.alloc (.cells #[.int .i64 t.1, .int .i64 t.2.1, .int .i64 t.2.2] 79)).alloc (.cells #[.int .i64 u.1, .int .i64 u.2.1, .int .i64 u.2.2] 79)) = w4 at c0 c1 hk4 HD4 Q4 ⊢
    have gt0 := fun g => grow_cell (show w4.cell? ⟨w3.heap.size, 0, none⟩ = some (.int .i64 t.1) from cell_of_row _ _ _ _ _ _ c0) g
    have gt1 := fun g => grow_cell (show w4.cell? ⟨w3.heap.size, 1, none⟩ = some (.int .i64 t.2.1) from cell_of_row _ _ _ _ _ _ c0) g
    have gt2 := fun g => grow_cell (show w4.cell? ⟨w3.heap.size, 2, none⟩ = some (.int .i64 t.2.2) from cell_of_row _ _ _ _ _ _ c0) g
    have gu0 := fun g => grow_cell (show w4.cell? ⟨w3.heap.size + 1, 0, none⟩ = some (.int .i64 u.1) from cell_of_row _ _ _ _ _ _ c1) g
    have gu1 := fun g => grow_cell (show w4.cell? ⟨w3.heap.size + 1, 1, none⟩ = some (.int .i64 u.2.1) from cell_of_row _ _ _ _ _ _ c1) g
    have gu2 := fun g => grow_cell (show w4.cell? ⟨w3.heap.size + 1, 2, none⟩ = some (.int .i64 u.2.2) from cell_of_row _ _ _ _ _ _ c1) g
    refine wp_region_grow_tail 13 (by kernel_rfl) (by kernel_rfl) ?_
    simp only [List.take_succ_cons, List.take_zero, List.drop_succ_cons, List.drop_zero]
    iterate 5 (go_big_quiet_step (fail))
    go_big_quiet_step (exact leftOf_grow HD4.out t t.2.1 dividend _)
    iterate 5 (go_big_quiet_step (fail))
    go_big_quiet_step (exact leftOf_grow HD4.out u u.2.2 dividend _)
    go_big_quiet_step (fail)
    refine wpQuiet_nil ?_
    rintro w' ⟨g, rfl⟩
    have hk5 := (grow_pure w4 g).heap hk4 (fun f => f)
    have c0 : (grow w4 g).cell? ⟨w.heap.size + 1, 0, none⟩ = some (.int .i64 0) := cell_of_row _ _ _ _ _ _ hk5
    have c1 : (grow w4 g).cell? ⟨w.heap.size + 1, 1, none⟩ = some (.int .i64 0) := cell_of_row _ _ _ _ _ _ hk5
    have fr : ∀ j, (grow w4 g).frozen? ⟨w.heap.size + 1, j, none⟩ = false := fun j => by simp [World.frozen?, hk5]
    generalize leftW p t.1 t.2.1 dividend = lo at HR ⊢
    generalize leftW p u.1 u.2.2 dividend = hi at HR ⊢
    have HX := Lib.hid (rng_stored hk5 (Q4.out.trans (grow_pure w4 g)) (Nat.le_succ _) lo hi)
    clear hk5 hk4 gt0 gt1 gt2 gu0 gu1 gu2
    go_wp2
    obtain ⟨e0, e1, hPP⟩ := HX.out
    refine bodyPost_ret (v := .tuple #[.agg #[.int .i64 lo, .int .i64 hi], .int .i64 0]) ?_ rfl ⟨by rw [HR.out], hPP⟩
    simp [results, Try.f21, go_sem, e0, e1]

/-! ### Need -/
def needR (p : Pool) (runner dividend : Int) : Int × Int :=
  if (spreadR p runner dividend).2.2 ≠ 0 then (0, (spreadR p runner dividend).2.2) else (max 0 (wrap64 (-(spreadR p runner dividend).1)), 0)

set_option maxHeartbeats 1000000 in
set_option maxRecDepth 100000 in
theorem Need_any (D : Nat → Prop) (v : Value) (p : Pool) (runner dividend : Int) (w : World) (hv : PoolAt D w v p) :
    Calls Try.prog 34 #[v, .int .i64 runner, .int .i64 dividend] w fun e w' => e = .returned (.tuple #[.int .i64 (needR p runner dividend).1, .int .i64 (needR p runner dividend).2]) ∧ Pure w w' := by
  have hC0 := hv
  obtain ⟨tk, rfl, hr⟩ := hv
  obtain ⟨a, len, cap, rfl, hlen, _, hm, _⟩ := hr
  have hP0 : Pure w (w.alloc (Obj.cells #[.slice a len cap, .int .i64 p.per, .int .i64 p.pence, .int .i64 p.keep, .int .i64 p.step] 24)) := (Only.refl _ w).alloc _
  have hC := Spread_any D _ p runner dividend _ (hC0.pure hP0)
  have HP0 := Lib.hid hP0
  clear hP0 hlen hC0
  go_enter Try.func34, Try.ntmps34
  go_wp2_with fail
  refine hC.mono ?_
  rintro e w1 ⟨rfl, P1⟩
  have Q1 := Lib.hid (HP0.out.trans P1)
  have hP1 : Pure w1 (w1.alloc (.cells #[.int .i64 (spreadR p runner dividend).1, .int .i64 (spreadR p runner dividend).2.1] 50)) := (Only.refl _ w1).alloc _
  have Q2 := Lib.hid (Q1.out.trans hP1)
  clear hC P1 hP1
  have HR := Lib.hid (show needR p runner dividend = if (spreadR p runner dividend).2.2 ≠ 0 then (0, (spreadR p runner dividend).2.2) else (max 0 (wrap64 (-(spreadR p runner dividend).1)), 0) from rfl)
  generalize spreadR p runner dividend = s at HR Q2 ⊢
  obtain ⟨lo, hi, e⟩ := s
  by_cases h0 : e = 0
  · subst h0
    rcases Int.lt_or_le 0 (wrap64 (-lo)) with q | q
    · go_wp2
      go_ret2
      exact ⟨by rw [HR.out, if_neg (by simp), Int.max_eq_right (Int.le_of_lt q)]; rfl, Q2.out⟩
    · go_wp2
      go_ret2
      exact ⟨by rw [HR.out, if_neg (by simp), Int.max_eq_left q]; rfl, Q2.out⟩
  · go_wp2
    go_ret2
    exact ⟨by rw [HR.out, if_pos h0]; rfl, Q2.out⟩
end Go.Proofs.Ytngkmfddamaegaa
