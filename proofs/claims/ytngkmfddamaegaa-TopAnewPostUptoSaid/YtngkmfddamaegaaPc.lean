/-
  The totals of a desk, and the least of them.
-/
import Derived.Test.YtngkmfddamaegaaPb
import Derived.RangeFuncNested
import Derived.RangeFuncBound
import Derived.RangeFuncCalls
import Derived.RangeFuncLeaves
import Derived.Shelf.Abstract
import Derived.Shelf.RegionOpen
import Derived.WalkKit
import Derived.OwnWalkIn
import Derived.TacticsInMore
import Derived.LoopNIn
import Derived.LoopIn
import Derived.ChangeKeysEq
namespace Go.Proofs.Ytngkmfddamaegaa
open Go.RowKit Go.Shelf
attribute [local go_sem] Oper.semAt_some

abbrev Tot := Int × Int × Int
def totV (t : Tot) : Value := .agg #[.int .i64 t.1, .int .i64 t.2.1, .int .i64 t.2.2]
def totAt (p : Pool) (r : Nat) (all : Int) : Tot :=
  (all, min ((his p)[r]?.getD 0) (wrap64 (all - wrap64 (sumW (los p) - (los p)[r]?.getD 0))), max ((los p)[r]?.getD 0) (wrap64 (all - wrap64 (sumW (his p) - (his p)[r]?.getD 0))))
def totalsOf (p : Pool) (r : Nat) : List Tot :=
  if his p = List.replicate 8 0 then [(0, 0, 0)] else (List.range (sumW (his p) - sumW (los p) + 1).toNat).map fun (k : Nat) => totAt p r (sumW (los p) + k)

theorem sum_quiet2 {D : Nat → Prop} {v : Value} {l : List Int} {w : World} {k n : Nat} (hv : Ints D w v l) :
    Calls Try.prog 47 #[v] (w.drewN (k + n)) fun e w'' => e = .returned (.int .i64 (sumW l)) ∧ ∃ m, w'' = w.drewN (k + m) :=
  (sum_any D v l _ (hv.drewN (k + n))).mono fun _ _ ⟨he, hw⟩ => ⟨he, n, hw.symm⟩

theorem info2 : (Try.prog.info? 2).map (fun i => (i.zero, i.size, i.bytes)) = some (some (.int .i64 0), 1, 8) := by kernel_rfl
set_option maxHeartbeats 1000000 in
set_option maxRecDepth 100000 in
theorem units_eq (g0 g1 g2 g3 g4 g5 g6 g7 : Int) (w : World) :
    (Op.equalIn 10000 108 (.agg #[.int .i64 g0, .int .i64 g1, .int .i64 g2, .int .i64 g3, .int .i64 g4, .int .i64 g5, .int .i64 g6, .int .i64 g7]) (.agg #[.int .i64 0, .int .i64 0, .int .i64 0, .int .i64 0, .int .i64 0, .int .i64 0, .int .i64 0, .int .i64 0])).run Try.prog w
      = .ok (decide ([g0, g1, g2, g3, g4, g5, g6, g7] = List.replicate 8 0)) w := by
  simp only [List.replicate_succ, List.replicate_zero, List.cons.injEq, and_true]
  obtain ⟨i0, hi, hz0, hz1, hz2⟩ := info_parts info2
  refine (run_equalIn_array w 9999 _ _ Try.underlying108 hi).trans ?_
  simp only [show List.range 8 = [0, 1, 2, 3, 4, 5, 6, 7] from rfl]
  have hc : Try.prog.cellsOf 2 = 1 := by kernel_rfl
  simp [Op.eqItems, go_sem, hc]
  by_cases h0 : g0 = 0 <;> simp [h0]
  by_cases h1 : g1 = 0 <;> simp [h1]
  by_cases h2 : g2 = 0 <;> simp [h2]
  by_cases h3 : g3 = 0 <;> simp [h3]
  by_cases h4 : g4 = 0 <;> simp [h4]
  by_cases h5 : g5 = 0 <;> simp [h5]
  by_cases h6 : g6 = 0 <;> simp [h6]
  by_cases h7 : g7 = 0 <;> simp [h7]

theorem pure_grown {w w' : World} (h : Pure w w') : w.grownBy w' none := ⟨h.os, h.tape, h.output, h.size, fun k hk _ => h.block k hk (fun f => f)⟩
theorem sumW_bd (l : List Int) : -9223372036854775808 ≤ sumW l ∧ sumW l ≤ 9223372036854775807 := by
  unfold sumW
  generalize h : (0 : Int) = a
  have ha : -9223372036854775808 ≤ a ∧ a ≤ 9223372036854775807 := by omega
  clear h
  induction l generalizing a with
  | nil => exact ha
  | cons x l ih => exact ih _ (wrap64_bd _)

theorem List.range_prefix (a b : Nat) (h : a ≤ b) : List.range a <+: List.range b := by
  obtain ⟨d, rfl⟩ := Nat.exists_eq_add_of_le h
  rw [List.range_add]; exact ⟨_, rfl⟩

theorem eight {l : List Int} (h : l.length = 8) : ∃ g0 g1 g2 g3 g4 g5 g6 g7, l = [g0, g1, g2, g3, g4, g5, g6, g7] := by
  match l, h with
  | [g0, g1, g2, g3, g4, g5, g6, g7], _ => exact ⟨g0, g1, g2, g3, g4, g5, g6, g7, rfl⟩

set_option maxHeartbeats 1000000 in
set_option maxRecDepth 100000 in
theorem totals1_stops (n : Nat) (B b Bn : Nat) (v : Value) (p : Pool) (r : Nat) (w : World) (hn : 2 ≤ n) (ht : p.tickets.length ≤ 8) (hr : r < 8) (hs : sumW (his p) < 9223372036854775807)
    (hBn : w.cell? ⟨Bn, 0, none⟩ = some (.pointer (some ⟨b, 0, none⟩))) (hD : DeskAt B b v p r w) :
    SeqStopsK Fence.wide n Try.prog 80 #[.pointer (some ⟨Bn, 0, none⟩)] (fun t => #[totV t]) (fun _ _ => True) (fun l => l = totalsOf p r) (fun l => l <+: totalsOf p r) (totalsOf p r).length w := by
  intro l J Jx W hW hJ hJx hY h0
  have hbn := (hW.cell (p := ⟨Bn, 0, none⟩) (World.block_lt_of_cell? w _ hBn)).trans hBn
  obtain ⟨tk, m, rfl, _, _, hd0, hm0⟩ := hD
  have hd := (hW.block b (lt_of_block hd0)).trans hd0
  clear hd0 hBn hm0
  refine callsIn_of_wp Try.func80 rfl trivial ?_ rfl
  simp only [Try.ntmps80, List.size_toArray, List.length_cons, List.length_nil, Nat.reduceAdd, Nat.reduceSub, Array.replicate_succ, Array.replicate_zero, List.push_toArray, List.append_toArray, List.nil_append, List.cons_append]
  have hln : (los p).length = 8 := pad8_len (by simpa using ht)
  have hhn : (his p).length = 8 := pad8_len (by simpa using ht)
  obtain ⟨lr, hlr⟩ : ∃ x, (los p)[r]?.getD 0 = x := ⟨_, rfl⟩
  obtain ⟨hr', hhr⟩ : ∃ x, (his p)[r]?.getD 0 = x := ⟨_, rfl⟩
  have d5 : W.cell? ⟨b, 5, none⟩ = some (.int .i64 r) := by rw [cell_of_row _ _ _ _ _ _ hd]; rfl
  have d6 : W.cell? ⟨b, 6 + r, none⟩ = some (.int .i64 lr) := by rw [cell_of_row _ _ _ _ _ _ hd, ← hlr]; exact deskC_lo hln r hr
  have d14 : W.cell? ⟨b, 14 + r, none⟩ = some (.int .i64 hr') := by rw [cell_of_row _ _ _ _ _ _ hd, ← hhr]; exact deskC_hi hln hhn r hr
  obtain ⟨g0, g1, g2, g3, g4, g5, g6, g7, hg⟩ := eight hhn
  have e0 : W.cell? ⟨b, 14, none⟩ = some (.int .i64 g0) := by rw [cell_of_row _ _ _ _ _ _ hd]; exact (deskC_hi hln hhn 0 (by decide)).trans (by rw [hg]; rfl)
  have e1 : W.cell? ⟨b, 15, none⟩ = some (.int .i64 g1) := by rw [cell_of_row _ _ _ _ _ _ hd]; exact (deskC_hi hln hhn 1 (by decide)).trans (by rw [hg]; rfl)
  have e2 : W.cell? ⟨b, 16, none⟩ = some (.int .i64 g2) := by rw [cell_of_row _ _ _ _ _ _ hd]; exact (deskC_hi hln hhn 2 (by decide)).trans (by rw [hg]; rfl)
  have e3 : W.cell? ⟨b, 17, none⟩ = some (.int .i64 g3) := by rw [cell_of_row _ _ _ _ _ _ hd]; exact (deskC_hi hln hhn 3 (by decide)).trans (by rw [hg]; rfl)
  have e4 : W.cell? ⟨b, 18, none⟩ = some (.int .i64 g4) := by rw [cell_of_row _ _ _ _ _ _ hd]; exact (deskC_hi hln hhn 4 (by decide)).trans (by rw [hg]; rfl)
  have e5 : W.cell? ⟨b, 19, none⟩ = some (.int .i64 g5) := by rw [cell_of_row _ _ _ _ _ _ hd]; exact (deskC_hi hln hhn 5 (by decide)).trans (by rw [hg]; rfl)
  have e6 : W.cell? ⟨b, 20, none⟩ = some (.int .i64 g6) := by rw [cell_of_row _ _ _ _ _ _ hd]; exact (deskC_hi hln hhn 6 (by decide)).trans (by rw [hg]; rfl)
  have e7 : W.cell? ⟨b, 21, none⟩ = some (.int .i64 g7) := by rw [cell_of_row _ _ _ _ _ _ hd]; exact (deskC_hi hln hhn 7 (by decide)).trans (by rw [hg]; rfl)
  obtain ⟨z, hz⟩ : ∃ z : Bool, decide (his p = List.replicate 8 0) = z := ⟨_, rfl⟩
  have hu := units_eq g0 g1 g2 g3 g4 g5 g6 g7
  rw [← hg, hz] at hu
  have Hz := Lib.hid hz; clear hz
  have hI : Ints (fun _ => True) W (.slice (some ⟨b, 6, none⟩) 8 8) (los p) :=
    ⟨_, 8, 8, rfl, hln.symm, Nat.le_refl _, by omega, fun i hi => ⟨_, 6, rfl, trivial, by rw [cell_of_row _ _ _ _ _ _ hd]; exact deskC_lo hln i hi⟩⟩
  have hI2 : Ints (fun _ => True) W (.slice (some ⟨b, 14, none⟩) 8 8) (his p) :=
    ⟨_, 8, 8, rfl, hhn.symm, Nat.le_refl _, by omega, fun i hi => ⟨_, 14, rfl, trivial, by rw [cell_of_row _ _ _ _ _ _ hd]; exact deskC_hi hln hhn i hi⟩⟩
  have Hln := Lib.hid hln; have Hhn := Lib.hid hhn; have Hlr := Lib.hid hlr; have Hhr := Lib.hid hhr; have HDD := Lib.hid hd; have Hg := Lib.hid hg; clear hln hhn hlr hhr hd hg
  gi_wp2
  refine wpIn_wide.2 ?_
  go_quiet (fail)
  generalize nq = k1
  gi_wp2
  refine wpIn_wide.2 ?_
  go_quiet (first | exact sum_quiet2 hI | exact sum_quiet2 hI2)
  generalize nq = k2
  have h1 : J [] (W.drewN (k1 + k2)) := hJ _ _ _ none h0 (pure_grown ((Only.refl _ W).drewN _)) (fun r e => by cases e)
  cases z with
  | true =>
    have hT : totalsOf p r = [(0, 0, 0)] := by unfold totalsOf; rw [if_pos (of_decide_eq_true Hz.out)]
    obtain ⟨fn, tmps, assign, body, hy, hR⟩ := hY [] (0, 0, 0) _ h1 (by rw [hT]; decide)
    dsimp only [totV] at hy
    gi_wp2
    refine ⟨fun _ => by omega, hR.mono ?_⟩
    rintro e W3 (⟨rfl, hJ3, hk3⟩ | ⟨rfl, hJx3⟩)
    · gi_wp2
      refine bodyPost_ret (results_none rfl _ _ _) rfl ?_
      exact ⟨⟨_, rfl⟩, .inl ⟨_, hT.symm, hJ3⟩⟩
    · gi_wp2
      refine bodyPost_ret (results_none rfl _ _ _) rfl ?_
      exact ⟨⟨_, rfl⟩, .inr ⟨_, by rw [hT]; exact List.prefix_refl _, hJx3⟩⟩
  | false =>
    have hT : totalsOf p r = (List.range (sumW (his p) - sumW (los p) + 1).toNat).map fun (k : Nat) => totAt p r (sumW (los p) + k) := by unfold totalsOf; rw [if_neg (of_decide_eq_false Hz.out)]
    have HT := Lib.hid hT; clear hT
    have hb1 := sumW_bd (los p)
    gi_wp2
    gi_loopw [7] (fun i wr => ∃ k : Nat, (k : Int) ≤ max (sumW (his p) - sumW (los p) + 1) 0 ∧ i = .int .i64 (sumW (los p) + k) ∧ J ((List.range k).map fun (k : Nat) => totAt p r (sumW (los p) + k)) wr) (fun i _ => (sumW (his p) + 1 - intOf i).toNat)
    case atStart => exact ⟨0, by omega, by simp, h1⟩
    case round =>
      obtain ⟨k, hk, rfl, hJs⟩ := hrel
      by_cases hlt : sumW (los p) + k ≤ sumW (his p)
      · obtain ⟨fn, tmps, assign, body, hy, hR⟩ := hY _ (totAt p r (sumW (los p) + k)) wr hJs (by rw [HT.out]; simp; omega)
        dsimp only [totV, totAt] at hy
        rw [Hlr.out, Hhr.out] at hy
        rcases Int.lt_or_le (wrap64 (sumW (los p) + k - wrap64 (sumW (los p) - lr))) hr' with q1 | q1 <;> rcases Int.lt_or_le lr (wrap64 (sumW (los p) + k - wrap64 (sumW (his p) - hr'))) with q2 | q2
        all_goals first | rw [Int.min_eq_left q1] at hy | rw [Int.min_eq_right (Int.le_of_lt q1)] at hy
        all_goals first | rw [Int.max_eq_left q2] at hy | rw [Int.max_eq_right (Int.le_of_lt q2)] at hy
        all_goals
          gi_wp2
          refine ⟨fun _ => by omega, hR.mono ?_⟩
          rintro e W3 (⟨rfl, hJ3, hk3⟩ | ⟨rfl, hJx3⟩)
          · gi_wp2
            go_roundw
            case rel => exact ⟨k + 1, by omega, by go_num, by rw [List.range_succ, List.map_append]; exact hJ3⟩
            case measure => simp [intOf]; omega
          · gi_wp2
            refine bodyPost_ret (results_none rfl _ _ _) rfl ?_
            refine ⟨⟨_, rfl⟩, .inr ⟨_, ?_, hJx3⟩⟩
            rw [HT.out]
            have := (List.range_prefix (k + 1) (sumW (his p) - sumW (los p) + 1).toNat (by omega)).map (fun (k : Nat) => totAt p r (sumW (los p) + k))
            rwa [List.range_succ, List.map_append] at this
      · gi_wp2
        go_end0
        have hk2 : (sumW (his p) - sumW (los p) + 1).toNat = k := by omega
        refine ⟨⟨_, rfl⟩, .inl ?_⟩
        rw [HT.out, hk2]; exact hJs
end Go.Proofs.Ytngkmfddamaegaa
