/-
  What is left, the worst and the best totals; whether a dividend is safe.
-/
import Derived.Test.YtngkmfddamaegaaPd
namespace Go.Proofs.Ytngkmfddamaegaa
open Go.RowKit

/-- The net that the map tells. -/
def netZ (p : Pool) (all : Int) : Int := if badNet p all then 0 else if 0 ≤ all ∧ all < (wrap64 (sumW (his p) + 1)).toNat then netW p all else 0
theorem netsF_get (p : Pool) (all : Int) : ((netsF p all).getD (.int .i64 0)) = .int .i64 (netZ p all) := by
  unfold netsF netZ netsTo
  by_cases hb : badNet p all
  · rw [if_pos hb, if_pos hb]; rfl
  · rw [if_neg hb, if_neg hb]
    split <;> rfl

def leftW (p : Pool) (all on dividend : Int) : Int := wrap64 (netZ p all - wrap64 (dividend * on))

set_option maxHeartbeats 1000000 in
set_option maxRecDepth 100000 in
theorem left_any (B b : Nat) (v : Value) (p : Pool) (r : Int) (t : Tot) (on dividend : Int) (w : World) (ht : p.tickets.length ≤ 8) (hD : DeskAt B b v p r w) :
    Calls Try.prog 52 #[.pointer (some ⟨b, 0, none⟩), totV t, .int .i64 on, .int .i64 dividend] w fun e w' => e = .returned (.int .i64 (leftW p t.1 on dividend)) ∧ Pure w w' := by
  obtain ⟨tk, m, rfl, _, _, hd, hm⟩ := hD
  have hln : (los p).length = 8 := pad8_len (by simpa using ht)
  have hhn : (his p).length = 8 := pad8_len (by simpa using ht)
  unfold totV
  have hb := lt_of_block hd
  have hw1 : Pure w (w.alloc (.cells #[.int .i64 t.1, .int .i64 t.2.1, .int .i64 t.2.2] 79)) := (Only.refl _ w).alloc _
  have d22 : (w.alloc (.cells #[.int .i64 t.1, .int .i64 t.2.1, .int .i64 t.2.2] 79)).cell? ⟨b, 22, none⟩ = some (.map (some m)) := by
    rw [cell_of_row _ _ _ _ _ _ (hw1.heap hd (fun f => f))]; exact deskC_map hln hhn
  have hlk := fun n => ((hm.keep hw1 (fun f => f)).keep ((Only.refl (fun _ => False) _).drewN n) (fun f => f)).look (P := Try.prog) bill_law Try.underlying109 (Try.zeroValue2 _) t.1
  simp only [netsF_get] at hlk
  unfold billV at hlk
  have Hln := Lib.hid hln; have Hhn := Lib.hid hhn; have Hd := Lib.hid hd; have HP := Lib.hid hw1; clear hln hhn hd hw1 hm
  go_enter Try.func52, Try.ntmps52
  go_wp2
  go_quiet (fail)
  go_wp2
  go_ret
  exact ⟨rfl, HP.out.drewN _⟩

/-- A desk of a valid pool and a runner. -/
structure Desk (b : Nat) (p : Pool) (r : Nat) (w : World) : Prop where
  desk : ∃ B a cap, DeskAt B b (.agg #[.slice a p.tickets.length cap, .int .i64 p.per, .int .i64 p.pence, .int .i64 p.keep, .int .i64 p.step]) p r w
  len : p.tickets.length ≤ 8
  runner : r < 8
  sum : sumW (his p) < 9223372036854775807

theorem Desk.lt {b : Nat} {p : Pool} {r : Nat} {w : World} (h : Desk b p r w) : b < w.heap.size := by
  obtain ⟨B, a, cap, tk, m, _, _, _, hd, hm⟩ := h.desk
  exact lt_of_block hd
theorem Desk.below {b n : Nat} {p : Pool} {r : Nat} {w w' : World} (h : Desk b p r w) (ho : Below n w w') (hn : w.heap.size ≤ n) : Desk b p r w' := by
  obtain ⟨⟨B, a, cap, tk, m, hv, hB, hm0, hd, hm⟩, h1, h2, h3⟩ := h
  have hO := Only.below ho
  exact ⟨⟨B, a, cap, tk, m, hv, hB, hm0, hO.heap hd (by have := lt_of_block hd; omega), hm.keep hO (by have := hm.lt; omega)⟩, h1, h2, h3⟩
theorem Desk.pure {b : Nat} {p : Pool} {r : Nat} {w w' : World} (h : Desk b p r w) (ho : Pure w w') : Desk b p r w' := h.below (below_of_pure ho (Nat.le_refl _)) (Nat.le_refl _)

theorem leftOf_any {b : Nat} {p : Pool} {r : Nat} {w : World} (h : Desk b p r w) (t : Tot) (on dividend : Int) :
    Calls Try.prog 52 #[.pointer (some ⟨b, 0, none⟩), totV t, .int .i64 on, .int .i64 dividend] w fun e w' => e = .returned (.int .i64 (leftW p t.1 on dividend)) ∧ Pure w w' := by
  obtain ⟨⟨B, a, cap, hD⟩, h1, h2, h3⟩ := h
  exact left_any B b _ p r t on dividend w h1 hD

def worstF (p : Pool) (dividend : Int) (t : Tot) : Int := leftW p t.1 t.2.1 dividend
def bestF (p : Pool) (dividend : Int) (t : Tot) : Int := wrap64 (-leftW p t.1 t.2.2 dividend)

set_option maxHeartbeats 1000000 in
set_option maxRecDepth 100000 in
theorem worst1_any {b : Nat} {p : Pool} {r : Nat} {w : World} (h : Desk b p r w) (t : Tot) (dividend : Int) (b1 b2 : Nat) (h1 : w.cell? ⟨b1, 0, none⟩ = some (.pointer (some ⟨b, 0, none⟩))) (h2 : w.cell? ⟨b2, 0, none⟩ = some (.int .i64 dividend)) :
    Calls Try.prog 74 #[totV t, .pointer (some ⟨b1, 0, none⟩), .pointer (some ⟨b2, 0, none⟩)] w fun e w' => e = .returned (.int .i64 (worstF p dividend t)) ∧ Pure w w' := by
  have hP : Pure w (w.alloc (.cells #[.int .i64 t.1, .int .i64 t.2.1, .int .i64 t.2.2] 79)) := (Only.refl _ w).alloc _
  have hC := leftOf_any (h.pure hP) t t.2.1 dividend
  have g1 := hP.cell h1 (fun f => f)
  have g2 := hP.cell h2 (fun f => f)
  have HP := Lib.hid hP; clear hP
  unfold totV at hC ⊢
  go_enter Try.func74, Try.ntmps74
  go_wp2_with fail
  refine hC.mono ?_
  rintro e w1 ⟨rfl, hP1⟩
  go_wp2
  go_ret
  exact ⟨rfl, HP.out.trans hP1⟩

set_option maxHeartbeats 1000000 in
set_option maxRecDepth 100000 in
theorem best1_any {b : Nat} {p : Pool} {r : Nat} {w : World} (h : Desk b p r w) (t : Tot) (dividend : Int) (b1 b2 : Nat) (h1 : w.cell? ⟨b1, 0, none⟩ = some (.pointer (some ⟨b, 0, none⟩))) (h2 : w.cell? ⟨b2, 0, none⟩ = some (.int .i64 dividend)) :
    Calls Try.prog 76 #[totV t, .pointer (some ⟨b1, 0, none⟩), .pointer (some ⟨b2, 0, none⟩)] w fun e w' => e = .returned (.int .i64 (bestF p dividend t)) ∧ Pure w w' := by
  have hP : Pure w (w.alloc (.cells #[.int .i64 t.1, .int .i64 t.2.1, .int .i64 t.2.2] 79)) := (Only.refl _ w).alloc _
  have hC := leftOf_any (h.pure hP) t t.2.2 dividend
  have g1 := hP.cell h1 (fun f => f)
  have g2 := hP.cell h2 (fun f => f)
  have HP := Lib.hid hP; clear hP
  unfold totV at hC ⊢
  go_enter Try.func76, Try.ntmps76
  go_wp2_with fail
  refine hC.mono ?_
  rintro e w1 ⟨rfl, hP1⟩
  go_wp2
  go_ret
  exact ⟨rfl, HP.out.trans hP1⟩

/-- The world in which worst and best call least. -/
def askW (w : World) (b : Nat) (dividend : Int) : World :=
  (((w.alloc (.cells #[.pointer (some ⟨b, 0, none⟩)] 75)).alloc (.cells #[.int .i64 dividend] 2)).alloc (.cells #[.int .i64 0, .int .i64 0, .int .i64 0] 79)).alloc (.cells #[.pointer (some ⟨b, 0, none⟩)] 75)

theorem least_call {b : Nat} {p : Pool} {r : Nat} {w : World} (h : Desk b p r w) (dividend : Int) (gw : Nat) (f : Tot → Int) (hgw : ∀ args w, (callFunc gw args).run Try.prog w = .ok (.enter gw args) w)
    (hf : ∀ (W : World) (b1 b2 : Nat) (x : Tot), Desk b p r W → W.cell? ⟨b1, 0, none⟩ = some (.pointer (some ⟨b, 0, none⟩)) → W.cell? ⟨b2, 0, none⟩ = some (.int .i64 dividend) →
      Calls Try.prog gw #[totV x, .pointer (some ⟨b1, 0, none⟩), .pointer (some ⟨b2, 0, none⟩)] W fun e W' => e = .returned (.int .i64 (f x)) ∧ Pure W W') :
    Calls Try.prog 72 #[.func (.func 80) #[] #[.pointer (some ⟨w.heap.size + 3, 0, none⟩)], .func (.func gw) #[] #[.pointer (some ⟨w.heap.size, 0, none⟩), .pointer (some ⟨w.heap.size + 1, 0, none⟩)]] (askW w b dividend)
      fun e w' => e = .returned (totV (leastTo f (totalsOf p r)).1) ∧ Pure w w' ∧ w'.heap[w.heap.size + 2]? = some (.cells #[.int .i64 0, .int .i64 0, .int .i64 0] 79 (0, 0)) := by
  have hP : Pure w (askW w b dividend) := ((((Only.refl _ w).alloc _).alloc _).alloc _).alloc _
  have up : ∀ {W : World} {k : Nat} {o o' : Obj}, W.heap[k]? = some o → (W.alloc o').heap[k]? = some o := fun h => (Below.heap_alloc _ _ _ (lt_of_block h)).trans h
  have k0 : (askW w b dividend).heap[w.heap.size]? = some (.cells #[.pointer (some ⟨b, 0, none⟩)] 75 (0, 0)) := up (up (up (World.alloc_heap_new w _)))
  have k1 : (askW w b dividend).heap[w.heap.size + 1]? = some (.cells #[.int .i64 dividend] 2 (0, 0)) := by
    have := World.alloc_heap_new (w.alloc (.cells #[.pointer (some ⟨b, 0, none⟩)] 75)) (.cells #[.int .i64 dividend] 2)
    rw [World.size_alloc] at this
    exact up (up this)
  have k2 : (askW w b dividend).heap[w.heap.size + 2]? = some (.cells #[.int .i64 0, .int .i64 0, .int .i64 0] 79 (0, 0)) := by
    have := World.alloc_heap_new ((w.alloc (.cells #[.pointer (some ⟨b, 0, none⟩)] 75)).alloc (.cells #[.int .i64 dividend] 2)) (.cells #[.int .i64 0, .int .i64 0, .int .i64 0] 79)
    simp only [World.size_alloc] at this
    exact up this
  have k3 : (askW w b dividend).heap[w.heap.size + 3]? = some (.cells #[.pointer (some ⟨b, 0, none⟩)] 75 (0, 0)) := by
    have := World.alloc_heap_new (((w.alloc (.cells #[.pointer (some ⟨b, 0, none⟩)] 75)).alloc (.cells #[.int .i64 dividend] 2)).alloc (.cells #[.int .i64 0, .int .i64 0, .int .i64 0] 79)) (.cells #[.pointer (some ⟨b, 0, none⟩)] 75)
    simp only [World.size_alloc] at this
    exact this
  have hD := h.pure hP
  have kept : ∀ {W : World} {k : Nat} {o : Obj}, Below (askW w b dividend).heap.size (askW w b dividend) W → (askW w b dividend).heap[k]? = some o → W.heap[k]? = some o := fun hb hk => (hb.block _ (lt_of_block hk)).trans hk
  refine (least_any 80 gw _ _ _ (totalsOf p r) f (askW w b dividend) (enters_of Try.func80 (by kernel_rfl) rfl) hgw (fun W hW => ?_) (fun W x hW => ?_)).mono ?_
  · have hDW := hD.below hW (Nat.le_refl _)
    obtain ⟨B, a, cap, hA⟩ := hDW.desk
    exact totals1_stops 9 B b (w.heap.size + 3) _ p r W (by decide) h.len h.runner h.sum (cell_of_row _ _ _ _ _ _ (kept hW k3)) hA
  · exact hf W _ _ x (hD.below hW (Nat.le_refl _)) (cell_of_row _ _ _ _ _ _ (kept hW k0)) (cell_of_row _ _ _ _ _ _ (kept hW k1))
  · rintro e w' ⟨rfl, hP'⟩
    exact ⟨rfl, hP.trans hP', hP'.heap k2 (fun f => f)⟩

theorem tot_stored {w W : World} {k : Nat} (c1 : W.heap[k]? = some (.cells #[.int .i64 0, .int .i64 0, .int .i64 0] 79 (0, 0))) (hP : Pure w W) (hk : w.heap.size ≤ k) (x : Tot) :
    ((((W.setCell ⟨k, 0, none⟩ (.int .i64 x.1)).setCell ⟨k, 1, none⟩ (.int .i64 x.2.1)).setCell ⟨k, 2, none⟩ (.int .i64 x.2.2))).heap[k]? = some (.cells #[.int .i64 x.1, .int .i64 x.2.1, .int .i64 x.2.2] 79 (0, 0)) ∧
    Pure w ((((W.setCell ⟨k, 0, none⟩ (.int .i64 x.1)).setCell ⟨k, 1, none⟩ (.int .i64 x.2.1)).setCell ⟨k, 2, none⟩ (.int .i64 x.2.2))) := by
  have s1 := heap_setCell_same _ _ 0 _ _ (.int .i64 x.1) c1
  have s2 := heap_setCell_same _ _ 1 _ _ (.int .i64 x.2.1) s1
  have s3 := heap_setCell_same _ _ 2 _ _ (.int .i64 x.2.2) s2
  exact ⟨s3, ((hP.setCell (.inr hk) _).setCell (.inr hk) _).setCell (.inr hk) _⟩

set_option maxHeartbeats 1000000 in
set_option maxRecDepth 100000 in
theorem worst_any {b : Nat} {p : Pool} {r : Nat} {w : World} (h : Desk b p r w) (dividend : Int) :
    Calls Try.prog 50 #[.pointer (some ⟨b, 0, none⟩), .int .i64 dividend] w fun e w' => e = .returned (totV (leastTo (worstF p dividend) (totalsOf p r)).1) ∧ Pure w w' := by
  have hC := least_call h dividend 74 (worstF p dividend) (enters_of Try.func74 (by kernel_rfl) rfl) (fun W b1 b2 x hD h1 h2 => worst1_any hD x dividend b1 b2 h1 h2)
  unfold askW at hC
  generalize (leastTo (worstF p dividend) (totalsOf p r)).1 = t at hC ⊢
  go_enter Try.func50, Try.ntmps50
  go_wp2_with fail
  refine (totals_any b _).mono ?_
  rintro e w1 ⟨rfl, rfl⟩
  go_wp2_with fail
  refine hC.mono ?_
  unfold totV
  rintro e w1 ⟨rfl, hP1, hk⟩
  have d0 : w1.cell? ⟨w.heap.size + 1 + 1, 0, none⟩ = some (.int .i64 0) := cell_of_row _ _ _ _ _ _ hk
  have d1 : w1.cell? ⟨w.heap.size + 1 + 1, 1, none⟩ = some (.int .i64 0) := cell_of_row _ _ _ _ _ _ hk
  have d2 : w1.cell? ⟨w.heap.size + 1 + 1, 2, none⟩ = some (.int .i64 0) := cell_of_row _ _ _ _ _ _ hk
  have fr : ∀ j, w1.frozen? ⟨w.heap.size + 1 + 1, j, none⟩ = false := fun j => by simp [World.frozen?, hk]
  have hX := Lib.hid (tot_stored hk hP1 (by omega) t)
  clear hk hP1
  go_wp2
  obtain ⟨hc, hPP⟩ := hX.out
  have e0 := cell_of_row _ _ 0 _ _ _ hc
  have e1 := cell_of_row _ _ 1 _ _ _ hc
  have e2 := cell_of_row _ _ 2 _ _ _ hc
  refine bodyPost_ret (v := totV t) ?_ rfl ⟨rfl, hPP⟩
  simp [results, Try.f50, go_sem, e0, e1, e2, totV]
set_option maxHeartbeats 1000000 in
set_option maxRecDepth 100000 in
theorem best_any {b : Nat} {p : Pool} {r : Nat} {w : World} (h : Desk b p r w) (dividend : Int) :
    Calls Try.prog 56 #[.pointer (some ⟨b, 0, none⟩), .int .i64 dividend] w fun e w' => e = .returned (totV (leastTo (bestF p dividend) (totalsOf p r)).1) ∧ Pure w w' := by
  have hC := least_call h dividend 76 (bestF p dividend) (enters_of Try.func76 (by kernel_rfl) rfl) (fun W b1 b2 x hD h1 h2 => best1_any hD x dividend b1 b2 h1 h2)
  unfold askW at hC
  generalize (leastTo (bestF p dividend) (totalsOf p r)).1 = t at hC ⊢
  go_enter Try.func56, Try.ntmps56
  go_wp2_with fail
  refine (totals_any b _).mono ?_
  rintro e w1 ⟨rfl, rfl⟩
  go_wp2_with fail
  refine hC.mono ?_
  unfold totV
  rintro e w1 ⟨rfl, hP1, hk⟩
  have d0 : w1.cell? ⟨w.heap.size + 1 + 1, 0, none⟩ = some (.int .i64 0) := cell_of_row _ _ _ _ _ _ hk
  have d1 : w1.cell? ⟨w.heap.size + 1 + 1, 1, none⟩ = some (.int .i64 0) := cell_of_row _ _ _ _ _ _ hk
  have d2 : w1.cell? ⟨w.heap.size + 1 + 1, 2, none⟩ = some (.int .i64 0) := cell_of_row _ _ _ _ _ _ hk
  have fr : ∀ j, w1.frozen? ⟨w.heap.size + 1 + 1, j, none⟩ = false := fun j => by simp [World.frozen?, hk]
  have hX := Lib.hid (tot_stored hk hP1 (by omega) t)
  clear hk hP1
  go_wp2
  obtain ⟨hc, hPP⟩ := hX.out
  have e0 := cell_of_row _ _ 0 _ _ _ hc
  have e1 := cell_of_row _ _ 1 _ _ _ hc
  have e2 := cell_of_row _ _ 2 _ _ _ hc
  refine bodyPost_ret (v := totV t) ?_ rfl ⟨rfl, hPP⟩
  simp [results, Try.f56, go_sem, e0, e1, e2, totV]

/-- What is left of the worst total. -/
def worstLeft (p : Pool) (r : Nat) (dividend : Int) : Int := leftW p (leastTo (worstF p dividend) (totalsOf p r)).1.1 (leastTo (worstF p dividend) (totalsOf p r)).1.2.1 dividend

set_option maxHeartbeats 1000000 in
set_option maxRecDepth 100000 in
theorem safe_any {b : Nat} {p : Pool} {r : Nat} {w : World} (h : Desk b p r w) (dividend : Int) :
    Calls Try.prog 57 #[.pointer (some ⟨b, 0, none⟩), .int .i64 dividend] w fun e w' => e = .returned (.bool (decide (0 ≤ worstLeft p r dividend))) ∧ Pure w w' := by
  have hC := worst_any h dividend
  unfold worstLeft
  generalize (leastTo (worstF p dividend) (totalsOf p r)).1 = t at hC ⊢
  unfold totV at hC
  go_enter Try.func57, Try.ntmps57
  go_wp2_with fail
  refine hC.mono ?_
  rintro e w1 ⟨rfl, hP1⟩
  have hP2 : Pure w1 (w1.alloc (.cells #[.int .i64 t.1, .int .i64 t.2.1, .int .i64 t.2.2] 79)) := (Only.refl _ w1).alloc _
  have hC2 := leftOf_any ((h.pure hP1).pure hP2) t t.2.1 dividend
  unfold totV at hC2
  have HP := Lib.hid (hP1.trans hP2); clear hP2
  go_wp2_with fail
  refine hC2.mono ?_
  rintro e w1 ⟨rfl, hP3⟩
  go_wp2
  go_ret
  exact ⟨rfl, HP.out.trans hP3⟩
end Go.Proofs.Ytngkmfddamaegaa
