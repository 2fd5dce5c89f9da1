/-
  The document's answers at the examples, second half; the examples' helpers.
-/
import Derived.Test.YtngkmfddamaegaaPq
namespace Go.Proofs.Ytngkmfddamaegaa
open Go.RowKit

set_option maxHeartbeats 1000000 in
set_option maxRecDepth 100000 in
theorem refUnits_any (tb toff tc : Nat) (x y : Int) (w : World) (hx0 : 0 ≤ x) (hx1 : x ≤ 1000) (hy0 : 0 ≤ y) (hy1 : y ≤ 1000) (t0 : w.cell? ⟨tb, toff, none⟩ = some (.int .i64 x)) (t1 : w.cell? ⟨tb, toff + 1, none⟩ = some (.int .i64 y)) :
    Calls Try.prog 87 #[.slice (some ⟨tb, toff, none⟩) 2 tc] w fun e w' => e = .returned (.int .i64 (x + y)) ∧ w' = w := by
  go_enter Try.func87, Try.ntmps87
  go_wp2_with fail
  go_loopw [4, 3] (fun i s wr => ((i = .int .i64 0 ∧ s = .int .i64 0) ∨ (i = .int .i64 1 ∧ s = .int .i64 x) ∨ (i = .int .i64 2 ∧ s = .int .i64 (x + y))) ∧ wr = w) (fun i _ _ => 2 - (intOf i).toNat)
  case atStart => exact ⟨.inl ⟨rfl, rfl⟩, rfl⟩
  case round =>
    obtain ⟨hi, rfl⟩ := hrel
    rcases hi with ⟨rfl, rfl⟩ | ⟨rfl, rfl⟩ | ⟨rfl, rfl⟩
    · go_wp2
      go_roundw
      case rel => exact ⟨.inr (.inl ⟨rfl, by simp⟩), trivial⟩
      case measure => simp [intOf]
    · go_wp2
      go_roundw
      case rel => exact ⟨.inr (.inr ⟨rfl, rfl⟩), trivial⟩
      case measure => simp [intOf]
    · go_wp2
      go_ret
      exact ⟨rfl, rfl⟩

set_option maxHeartbeats 1000000 in
set_option maxRecDepth 100000 in
theorem refNet_any (a : Option Addr) (c : Nat) (n : Int) (w : World) : Calls Try.prog 86 #[v5 a c, .int .i64 n] w fun e w' => e = .returned (.int .i64 (netW P5 n)) ∧ Pure w w' := by
  unfold v5
  have hnet : netW P5 n = wrap64 (wrap64 (wrap64 (100 * n) - wrap64 (wrap64 ((wrap64 (100 * n)).tdiv 1000) * 100))) := by
    unfold netW; simp only [P5, Int.sub_zero]
  have HN := Lib.hid hnet; clear hnet
  go_enter Try.func86, Try.ntmps86
  go_wp2
  go_quiet (fail)
  go_wp2
  go_ret
  exact ⟨by rw [HN.out]; rfl, ((Only.refl _ w).alloc _).drewN _⟩

set_option maxHeartbeats 1000000 in
set_option maxRecDepth 100000 in
theorem refLeftOf_any (b off c tb toff tc : Nat) (x y n : Int) (w : World) (hx0 : 0 ≤ x) (hx1 : x ≤ 1000) (hy0 : 0 ≤ y) (hy1 : y ≤ 1000) (t0 : w.cell? ⟨tb, toff, none⟩ = some (.int .i64 x)) (t1 : w.cell? ⟨tb, toff + 1, none⟩ = some (.int .i64 y)) :
    Calls Try.prog 83 #[v5 (some ⟨b, off, none⟩) c, .slice (some ⟨tb, toff, none⟩) 2 tc, .int .i64 0, .int .i64 n] w fun e w' => e = .returned (.int .i64 (wrap64 (netW P5 (x + y) - wrap64 (n * x)))) ∧ Pure w w' := by
  unfold v5
  have hP0 : Pure w (w.alloc (Obj.cells #[.slice (some ⟨b, off, none⟩) 2 c, .int .i64 1000, .int .i64 100, .int .i64 0, .int .i64 10] 24)) := (Only.refl _ w).alloc _
  have hb := World.alloc_heap_new w (Obj.cells #[.slice (some ⟨b, off, none⟩) 2 c, .int .i64 1000, .int .i64 100, .int .i64 0, .int .i64 10] 24)
  have k0 := hP0.cell t0 (fun f => f)
  have k1 := hP0.cell t1 (fun f => f)
  have HP := Lib.hid hP0
  clear hP0 t0 t1
  go_enter Try.func83, Try.ntmps83
  go_wp2_with fail
  generalize (w.alloc (Obj.cells #[.slice (some ⟨b, off, none⟩) 2 c, .int .i64 1000, .int .i64 100, .int .i64 0, .int .i64 10] 24)) = w1 at hb k0 k1 HP ⊢
  have g0 := fun g => grow_cell (show w1.cell? ⟨w.heap.size, 0, none⟩ = some (.slice (some ⟨b, off, none⟩) 2 c) from cell_of_row _ _ _ _ _ _ hb) g
  have g1 := fun g => grow_cell (show w1.cell? ⟨w.heap.size, 1, none⟩ = some (.int .i64 1000) from cell_of_row _ _ _ _ _ _ hb) g
  have g2 := fun g => grow_cell (show w1.cell? ⟨w.heap.size, 2, none⟩ = some (.int .i64 100) from cell_of_row _ _ _ _ _ _ hb) g
  have g3 := fun g => grow_cell (show w1.cell? ⟨w.heap.size, 3, none⟩ = some (.int .i64 0) from cell_of_row _ _ _ _ _ _ hb) g
  have g4 := fun g => grow_cell (show w1.cell? ⟨w.heap.size, 4, none⟩ = some (.int .i64 10) from cell_of_row _ _ _ _ _ _ hb) g
  have y0 := fun g => grow_cell k0 g
  have y1 := fun g => grow_cell k1 g
  have hU := fun g => calls_grow ((refUnits_any tb toff tc x y (grow w1 g) hx0 hx1 hy0 hy1 (y0 g) (y1 g)).mono fun _ _ ⟨he, hw⟩ => ⟨he, hw ▸ Only.refl _ _⟩)
  have hN := fun g => calls_grow (refNet_any (some ⟨b, off, none⟩) c (x + y) (grow w1 g))
  unfold v5 at hN
  refine wp_region_grow (by kernel_rfl) (by kernel_rfl) ?_
  iterate 2 (go_big_quiet_step (fail))
  go_big_quiet_step (exact hU _)
  go_big_quiet_step (exact hN _)
  repeat (go_big_quiet_step (fail))
  refine wpQuiet_nil ?_
  rintro w' ⟨g, rfl⟩
  clear g0 g1 g2 g3 g4 y0 y1 hU hN
  go_wp2
  go_ret
  exact ⟨rfl, HP.out.trans (grow_pure _ _)⟩

set_option maxHeartbeats 1000000 in
set_option maxRecDepth 100000 in
theorem refLeft_any (b off c tb toff tc : Nat) (x y n : Int) (w : World) (hn : 0 ≤ n) (hn2 : n ≤ 100000) (hm : n.tmod 10 = 0) (hx0 : 3 ≤ x) (hx1 : x ≤ 5) (hy0 : 10 ≤ y) (hy1 : y ≤ 12) (h0 : w.cell? ⟨b, off, none⟩ = some (.int .i64 3)) (h1 : w.cell? ⟨b, off + 1, none⟩ = some (.int .i64 5)) (h2 : w.cell? ⟨b, off + 2, none⟩ = some (.int .i64 10)) (h3 : w.cell? ⟨b, off + 3, none⟩ = some (.int .i64 12)) (t0 : w.cell? ⟨tb, toff, none⟩ = some (.int .i64 x)) (t1 : w.cell? ⟨tb, toff + 1, none⟩ = some (.int .i64 y)) :
    Calls Try.prog 77 #[v5 (some ⟨b, off, none⟩) c, .slice (some ⟨tb, toff, none⟩) 2 tc, .int .i64 0, .int .i64 n] w fun e w' => e = .returned (.tuple #[.int .i64 (wrap64 (netW P5 (x + y) - wrap64 (n * x))), .int .i64 0]) ∧ Pure w w' := by
  have hP0 : Pure w (w.alloc (Obj.cells #[.slice (some ⟨b, off, none⟩) 2 c, .int .i64 1000, .int .i64 100, .int .i64 0, .int .i64 10] 24)) := (Only.refl _ w).alloc _
  have hb := World.alloc_heap_new w (Obj.cells #[.slice (some ⟨b, off, none⟩) 2 c, .int .i64 1000, .int .i64 100, .int .i64 0, .int .i64 10] 24)
  have hA := refAsked_any b off c n _ hn hn2 hm (hP0.cell h0 (fun f => f)) (hP0.cell h1 (fun f => f)) (hP0.cell h2 (fun f => f)) (hP0.cell h3 (fun f => f))
  have HP0 := Lib.hid hP0; have HB := Lib.hid hb
  have HC := Lib.hid (And.intro h0 (And.intro h1 (And.intro h2 (And.intro h3 (And.intro t0 t1)))))
  clear hP0 hb h0 h1 h2 h3 t0 t1
  unfold v5 at hA ⊢
  go_enter Try.func77, Try.ntmps77
  go_wp2_with fail
  refine hA.mono ?_
  rintro e w1 ⟨rfl, P1⟩
  have Q1 := HP0.out.trans P1
  have hb1 := P1.heap HB.out (fun f => f)
  have b0 : w1.cell? ⟨w.heap.size, 0, none⟩ = some (.slice (some ⟨b, off, none⟩) 2 c) := cell_of_row _ _ _ _ _ _ hb1
  have b1 : w1.cell? ⟨w.heap.size, 1, none⟩ = some (.int .i64 1000) := cell_of_row _ _ _ _ _ _ hb1
  have b2 : w1.cell? ⟨w.heap.size, 2, none⟩ = some (.int .i64 100) := cell_of_row _ _ _ _ _ _ hb1
  have b3 : w1.cell? ⟨w.heap.size, 3, none⟩ = some (.int .i64 0) := cell_of_row _ _ _ _ _ _ hb1
  have b4 : w1.cell? ⟨w.heap.size, 4, none⟩ = some (.int .i64 10) := cell_of_row _ _ _ _ _ _ hb1
  obtain ⟨k0, k1, k2, k3, k4, k5⟩ := HC.out
  have hT := refTruth_any b off c tb toff tc x y w1 hx0 hx1 hy0 hy1 (Q1.cell k0 (fun f => f)) (Q1.cell k1 (fun f => f)) (Q1.cell k2 (fun f => f)) (Q1.cell k3 (fun f => f)) (Q1.cell k4 (fun f => f)) (Q1.cell k5 (fun f => f))
  unfold v5 at hT
  have HQ1 := Lib.hid Q1
  have HB1 := Lib.hid hb1
  clear hA P1 Q1 hb1 k0 k1 k2 k3
  go_wp2_with fail
  refine hT.mono ?_
  rintro e w2 ⟨rfl, P2⟩
  have Q2 := HQ1.out.trans P2
  have hb2 := P2.heap HB1.out (fun f => f)
  clear b0 b1 b2 b3 b4
  have b0 : w2.cell? ⟨w.heap.size, 0, none⟩ = some (.slice (some ⟨b, off, none⟩) 2 c) := cell_of_row _ _ _ _ _ _ hb2
  have b1 : w2.cell? ⟨w.heap.size, 1, none⟩ = some (.int .i64 1000) := cell_of_row _ _ _ _ _ _ hb2
  have b2 : w2.cell? ⟨w.heap.size, 2, none⟩ = some (.int .i64 100) := cell_of_row _ _ _ _ _ _ hb2
  have b3 : w2.cell? ⟨w.heap.size, 3, none⟩ = some (.int .i64 0) := cell_of_row _ _ _ _ _ _ hb2
  have b4 : w2.cell? ⟨w.heap.size, 4, none⟩ = some (.int .i64 10) := cell_of_row _ _ _ _ _ _ hb2
  have hL := refLeftOf_any b off c tb toff tc x y n w2 (by omega) (by omega) (by omega) (by omega) (Q2.cell k4 (fun f => f)) (Q2.cell k5 (fun f => f))
  unfold v5 at hL
  have HQ2 := Lib.hid Q2
  clear hT P2 Q2 hb2 k4 k5
  go_wp2_with fail
  refine hL.mono ?_
  rintro e w3 ⟨rfl, P3⟩
  have HQ3 := Lib.hid (HQ2.out.trans P3)
  clear hL P3
  go_wp2
  go_ret2
  exact ⟨rfl, HQ3.out⟩

set_option maxHeartbeats 1000000 in
set_option maxRecDepth 100000 in
theorem leftOf5_any (b off c tb toff tc : Nat) (x y n : Int) (w : World) (hn : 0 ≤ n) (hn2 : n ≤ 100000) (hm : n.tmod 10 = 0) (hx0 : 3 ≤ x) (hx1 : x ≤ 5) (hy0 : 10 ≤ y) (hy1 : y ≤ 12) (h0 : w.cell? ⟨b, off, none⟩ = some (.int .i64 3)) (h1 : w.cell? ⟨b, off + 1, none⟩ = some (.int .i64 5)) (h2 : w.cell? ⟨b, off + 2, none⟩ = some (.int .i64 10)) (h3 : w.cell? ⟨b, off + 3, none⟩ = some (.int .i64 12)) (t0 : w.cell? ⟨tb, toff, none⟩ = some (.int .i64 x)) (t1 : w.cell? ⟨tb, toff + 1, none⟩ = some (.int .i64 y)) :
    Calls Try.prog 65 #[v5 (some ⟨b, off, none⟩) c, .slice (some ⟨tb, toff, none⟩) 2 tc, .int .i64 0, .int .i64 n] w fun e w' => e = .returned (.int .i64 (wrap64 (netW P5 (x + y) - wrap64 (n * x)))) ∧ Pure w w' := by
  have hP0 : Pure w (w.alloc (Obj.cells #[.slice (some ⟨b, off, none⟩) 2 c, .int .i64 1000, .int .i64 100, .int .i64 0, .int .i64 10] 24)) := (Only.refl _ w).alloc _
  have hL := refLeft_any b off c tb toff tc x y n _ hn hn2 hm hx0 hx1 hy0 hy1 (hP0.cell h0 (fun f => f)) (hP0.cell h1 (fun f => f)) (hP0.cell h2 (fun f => f)) (hP0.cell h3 (fun f => f)) (hP0.cell t0 (fun f => f)) (hP0.cell t1 (fun f => f))
  have HP0 := Lib.hid hP0
  clear hP0 h0 h1 h2 h3 t0 t1
  unfold v5 at hL ⊢
  go_enter Try.func65, Try.ntmps65
  go_wp2_with fail
  refine hL.mono ?_
  rintro e w1 ⟨rfl, P1⟩
  have Q1 := Lib.hid (HP0.out.trans P1)
  clear hL P1
  go_wp2
  go_ret
  exact ⟨rfl, Q1.out⟩

set_option maxHeartbeats 1000000 in
set_option maxRecDepth 100000 in
theorem refRefute_any (b off c tb toff tc : Nat) (x y n : Int) (w : World) (hn : 0 ≤ n) (hn2 : n ≤ 100000) (hm : n.tmod 10 = 0) (hx0 : 3 ≤ x) (hx1 : x ≤ 5) (hy0 : 10 ≤ y) (hy1 : y ≤ 12) (h0 : w.cell? ⟨b, off, none⟩ = some (.int .i64 3)) (h1 : w.cell? ⟨b, off + 1, none⟩ = some (.int .i64 5)) (h2 : w.cell? ⟨b, off + 2, none⟩ = some (.int .i64 10)) (h3 : w.cell? ⟨b, off + 3, none⟩ = some (.int .i64 12)) (t0 : w.cell? ⟨tb, toff, none⟩ = some (.int .i64 x)) (t1 : w.cell? ⟨tb, toff + 1, none⟩ = some (.int .i64 y)) (hneg : wrap64 (netW P5 (x + y) - wrap64 (n * x)) < 0) :
    Calls Try.prog 66 #[v5 (some ⟨b, off, none⟩) c, .int .i64 0, .int .i64 n, .slice (some ⟨tb, toff, none⟩) 2 tc] w fun e w' => e = .returned (.int .i64 0) ∧ Pure w w' := by
  have hP0 : Pure w (w.alloc (Obj.cells #[.slice (some ⟨b, off, none⟩) 2 c, .int .i64 1000, .int .i64 100, .int .i64 0, .int .i64 10] 24)) := (Only.refl _ w).alloc _
  have hL := refLeft_any b off c tb toff tc x y n _ hn hn2 hm hx0 hx1 hy0 hy1 (hP0.cell h0 (fun f => f)) (hP0.cell h1 (fun f => f)) (hP0.cell h2 (fun f => f)) (hP0.cell h3 (fun f => f)) (hP0.cell t0 (fun f => f)) (hP0.cell t1 (fun f => f))
  have HP0 := Lib.hid hP0
  clear hP0 h0 h1 h2 h3 t0 t1
  unfold v5 at hL ⊢
  go_enter Try.func66, Try.ntmps66
  go_wp2_with fail
  refine hL.mono ?_
  rintro e w1 ⟨rfl, P1⟩
  have Q1 := Lib.hid (HP0.out.trans P1)
  clear hL P1
  go_wp2
  go_ret
  exact ⟨rfl, Q1.out⟩

set_option maxHeartbeats 1000000 in
set_option maxRecDepth 100000 in
theorem rg_any (x y : Int) (w : World) : Calls Try.prog 64 #[.int .i64 x, .int .i64 y] w fun e w' => e = .returned (.agg #[.int .i64 x, .int .i64 y]) ∧ Pure w w' := by
  have hk := World.alloc_heap_new w (.cells #[.int .i64 x, .int .i64 y] 50)
  have e0 := cell_of_row _ _ 0 _ _ _ hk
  have e1 := cell_of_row _ _ 1 _ _ _ hk
  simp at e0 e1
  clear hk
  go_enter Try.func64, Try.ntmps64
  go_wp2
  refine bodyPost_ret (v := .agg #[.int .i64 x, .int .i64 y]) ?_ rfl ⟨rfl, (Only.refl _ w).alloc _⟩
  simp [results, Try.f64, go_sem, e0, e1]

set_option maxHeartbeats 1000000 in
set_option maxRecDepth 100000 in
theorem Longs_any (D D' : Nat → Prop) (u v : Value) (l m : List Int) (w : World) (hu : Ints D w u l) (hv : Ints D' w v m) (he : l = m) :
    Calls Try.prog 63 #[u, v] w fun e w' => e = .returned (.bool true) ∧ Pure w w' := by
  subst he
  obtain ⟨a1, n1, c1, rfl, hl1, _, hm1, h1⟩ := hu
  obtain ⟨a2, n2, c2, rfl, hl2, _, hm2, h2⟩ := hv
  obtain rfl : n1 = n2 := by omega
  have H1 := Lib.hid h1; have H2 := Lib.hid h2; clear h1 h2 hl1 hl2
  go_enter Try.func63, Try.ntmps63
  go_wp2_with fail
  go_loopw [5] (fun i wr => ∃ k : Nat, k ≤ n1 ∧ i = .int .i64 k ∧ Pure w wr) (fun i _ => n1 - (intOf i).toNat)
  case atStart => exact ⟨0, Nat.zero_le _, rfl, Only.refl _ _⟩
  case round =>
    obtain ⟨k, hk, rfl, hP⟩ := hrel
    by_cases hlt : k < n1
    · obtain ⟨b1, o1, rfl, _, c1⟩ := H1.out k hlt
      obtain ⟨b2, o2, rfl, _, c2⟩ := H2.out k hlt
      have k1 := hP.cell c1 (fun f => f)
      have k2 := hP.cell c2 (fun f => f)
      clear c1 c2
      generalize l[k]?.getD 0 = z at k1 k2
      have HP := Lib.hid hP; clear hP
      go_wp2_with fail
      go_quiet (fail)
      go_wp2
      go_roundw
      case rel => exact ⟨k + 1, by omega, by go_num, HP.out.drewN _⟩
      case measure => simp [intOf]; omega
    · obtain rfl : k = n1 := by omega
      have HP := Lib.hid hP; clear hP
      go_wp2
      go_ret
      exact ⟨rfl, HP.out⟩
end Go.Proofs.Ytngkmfddamaegaa
