/-
  The document's check of a plan, at its example.
-/
import Derived.Test.YtbiffhekbnmffaaCz
namespace Go.Proofs.Ytbiffhekbnmffaa
open Go.RowKit

def L5 : List Int := [2, 3, 2, 4, 0]
theorem at5p {w : World} {x k : Nat} (h : Tk w x) (hk : k < 5) : ∃ lo hi til, At5 w x k lo hi til ∧ ((lo ≤ til ∧ min hi til ≤ L5[k]?.getD 0 ∧ L5[k]?.getD 0 ≤ til) ∨ (til < lo ∧ L5[k]?.getD 0 = 0)) := by
  obtain ⟨h0, h1, h2, h3, h4⟩ := h.cells
  rcases (by omega : k = 0 ∨ k = 1 ∨ k = 2 ∨ k = 3 ∨ k = 4) with rfl | rfl | rfl | rfl | rfl
  · exact ⟨1, 2, 3, h0, by decide⟩
  · exact ⟨1, 3, 3, h1, by decide⟩
  · exact ⟨2, 2, 3, h2, by decide⟩
  · exact ⟨4, 5, 4, h3, by decide⟩
  · exact ⟨3, 3, 2, h4, by decide⟩
def cnt5 (m : Int) (j : Nat) : Nat := (L5.take j).countP (fun y => decide (y = m))
theorem cnt5_succ (m : Int) (j : Nat) (h : j < 5) : cnt5 m (j + 1) = cnt5 m j + if L5[j]?.getD 0 = m then 1 else 0 := by
  have hl : j < L5.length := h
  unfold cnt5
  rw [List.take_add_one, List.countP_append, List.getElem?_eq_getElem hl]
  simp [List.countP_cons, List.countP_nil]
theorem cnt5_bd (m : Int) (j : Nat) : cnt5 m j ≤ 5 := by
  unfold cnt5
  have := List.countP_le_length (p := fun y => decide (y = m)) (l := L5.take j)
  have h2 : (L5.take j).length ≤ 5 := by rw [List.length_take]; show min j 5 ≤ 5; omega
  omega
theorem cnt5_two (m : Int) (h0 : 1 ≤ m) (h1 : m ≤ 5) : cnt5 m 5 ≤ 2 := by
  rcases (by omega : m = 1 ∨ m = 2 ∨ m = 3 ∨ m = 4 ∨ m = 5) with rfl | rfl | rfl | rfl | rfl <;> decide

set_option maxHeartbeats 4000000 in
set_option maxRecDepth 100000 in
theorem refPlan_any (D : Nat → Prop) (x : Nat) (v : Value) (w : World) (hT : Tk w x) (hv : Ints D w v L5) :
    Calls Try.prog 55 #[.agg #[.int .i64 5, .slice (some ⟨x, 0, none⟩) 5 5], .int .i64 2, v] w fun e w' => e = .returned (.int .i64 0) ∧ Pure w w' := by
  obtain ⟨a, n, c, rfl, hn, _, _, hc⟩ := hv
  obtain rfl : n = 5 := hn
  have hP0 : Pure w (w.alloc (Obj.cells #[.int .i64 5, .slice (some ⟨x, 0, none⟩) 5 5] 24)) := (Only.refl _ w).alloc _
  have hb0 := World.alloc_heap_new w (Obj.cells #[.int .i64 5, .slice (some ⟨x, 0, none⟩) 5 5] 24)
  have hC := asked_any x _ (hT.pure hP0)
  have HT := Lib.hid hT; have HC := Lib.hid hc; have HP0 := Lib.hid hP0; have HB0 := Lib.hid hb0
  clear hT hc hP0 hb0
  go_enter Try.func55, Try.ntmps55
  go_wp2_with fail
  refine hC.mono ?_
  rintro e w1 ⟨rfl, P1⟩
  have hb1 := P1.heap HB0.out (fun f => f)
  have b1 : w1.cell? ⟨w.heap.size, 1, none⟩ = some (.slice (some ⟨x, 0, none⟩) 5 5) := cell_of_row _ _ _ _ _ _ hb1
  have HB1 := Lib.hid hb1
  have HP1 := Lib.hid (HP0.out.trans P1)
  clear hC P1 hb1
  go_wp2_with fail
  go_loopw [7] (fun i wr => ∃ k : Nat, k ≤ 5 ∧ i = .int .i64 k ∧ Pure w1 wr) (fun i _ => 5 - (intOf i).toNat)
  case atStart => exact ⟨0, by omega, rfl, Only.refl _ _⟩
  case round =>
    obtain ⟨k, hk, rfl, hP⟩ := hrel
    have hb := hP.heap HB1.out (fun f => f)
    have b0 : wr.cell? ⟨w.heap.size, 0, none⟩ = some (.int .i64 5) := cell_of_row _ _ _ _ _ _ hb
    replace b1 : wr.cell? ⟨w.heap.size, 1, none⟩ = some (.slice (some ⟨x, 0, none⟩) 5 5) := cell_of_row _ _ _ _ _ _ hb
    have hlw := lt_of_block hb
    clear hb
    by_cases hlt : k < 5
    · obtain ⟨lo, hi, til, ⟨c0, c1, c2⟩, hok⟩ := at5p (HT.out.pure (HP1.out.trans hP)) hlt
      obtain ⟨g, off, rfl, _, cp⟩ := HC.out k hlt
      have k3 := (HP1.out.trans hP).cell cp (fun f => f)
      obtain ⟨y, hy⟩ : ∃ y, L5[k]?.getD 0 = y := ⟨_, rfl⟩
      rw [hy] at k3 hok
      have hq := hP.alloc (.cells #[.int .i64 lo, .int .i64 hi, .int .i64 til] 64)
      have hbx := World.alloc_heap_new wr (.cells #[.int .i64 lo, .int .i64 hi, .int .i64 til] 64)
      have hA := (Only.refl (fun _ => False) wr).alloc (.cells #[.int .i64 lo, .int .i64 hi, .int .i64 til] 64)
      have d3 := hA.cell k3 (fun f => f)
      have HBX := Lib.hid hbx; have HP := Lib.hid hq; have HOK := Lib.hid hok; have D3 := Lib.hid d3
      clear cp hy hok hP hbx hA k3 d3 hq
      go_upto_region 9 with fail
      generalize hW : wr.alloc (.cells #[.int .i64 lo, .int .i64 hi, .int .i64 til] 64) = W at HP HBX D3 ⊢
      generalize wr.heap.size = B at HBX ⊢
      have e0 : W.cell? ⟨B, 0, none⟩ = some (.int .i64 lo) := cell_of_row _ _ _ _ _ _ HBX.out
      have e1 : W.cell? ⟨B, 1, none⟩ = some (.int .i64 hi) := cell_of_row _ _ _ _ _ _ HBX.out
      have e2 : W.cell? ⟨B, 2, none⟩ = some (.int .i64 til) := cell_of_row _ _ _ _ _ _ HBX.out
      have d3 := D3.out
      have g0 := fun g => grow_cell e0 g; have g1 := fun g => grow_cell e1 g; have g2 := fun g => grow_cell e2 g; have g3 := fun g => grow_cell d3 g
      have hcan := fun W => can_any lo hi til W
      have hlast := fun W => last_any lo hi til W
      obtain ⟨m, hm⟩ : ∃ m, min hi til = m := ⟨_, rfl⟩
      have hok := HOK.out
      rw [hm] at hok
      simp only [hm] at hlast
      clear hm b0 b1 c0 c1 c2 HOK hW
      rcases hok with ⟨o1, o2, o3⟩ | ⟨o1, rfl⟩
      · simp only [decide_eq_true o1] at hcan
        have HCAN := Lib.hid hcan; have HLAST := Lib.hid hlast
        have o2' : decide (y < m) = false := decide_eq_false (by omega)
        have o3' : decide (til < y) = false := decide_eq_false (by omega)
        clear hcan hlast
        refine wp_region_grow (by kernel_rfl) (by kernel_rfl) ?_
        repeat (go_big_quiet_step (first | exact calls_grow (HCAN.out _) | exact calls_grow (HLAST.out _)))
        refine wpQuiet_nil ?_
        rintro w' ⟨g, rfl⟩
        go_wp2
        go_roundw
        case rel => exact ⟨k + 1, by omega, by go_num, HP.out.trans (grow_pure _ _)⟩
        case measure => simp [intOf]; omega
      · have o1' : decide (lo ≤ til) = false := decide_eq_false (by omega)
        simp only [o1'] at hcan
        have HCAN := Lib.hid hcan; have HLAST := Lib.hid hlast
        clear hcan hlast
        refine wp_region_grow (by kernel_rfl) (by kernel_rfl) ?_
        repeat (go_big_quiet_step (first | exact calls_grow (HCAN.out _) | exact calls_grow (HLAST.out _)))
        refine wpQuiet_nil ?_
        rintro w' ⟨g, rfl⟩
        go_wp2
        go_roundw
        case rel => exact ⟨k + 1, by omega, by go_num, HP.out.trans (grow_pure _ _)⟩
        case measure => simp [intOf]; omega
    · obtain ⟨w2, rfl⟩ : ∃ z : World, z = wr := ⟨_, rfl⟩
      have HP2 := Lib.hid (HP1.out.trans hP)
      have HB2 := Lib.hid (hP.heap HB1.out (fun f => f))
      clear hP b1
      go_wp2_with fail
      go_loopw [9] (fun i wr => ∃ m : Int, 1 ≤ m ∧ m ≤ 6 ∧ i = .int .i64 m ∧ wr = w2) (fun i _ => (6 - intOf i).toNat)
      case atStart => exact ⟨1, by omega, by omega, rfl, rfl⟩
      case round =>
        obtain ⟨m, hm0, hm1, rfl, rfl⟩ := hrel
        by_cases hm : m ≤ 5
        · go_wp2_with fail
          go_loopw [11, 10] (fun i c wz => ∃ j : Nat, j ≤ 5 ∧ i = .int .i64 j ∧ c = .int .i64 (cnt5 m j) ∧ wz = wr) (fun i _ _ => 5 - (intOf i).toNat)
          case atStart => exact ⟨0, by omega, rfl, rfl, rfl⟩
          case round =>
            obtain ⟨j, hj, rfl, rfl, hw⟩ := hrel
            subst hw
            by_cases hlt : j < 5
            · obtain ⟨g, off, rfl, _, cp⟩ := HC.out j hlt
              have k3 := HP2.out.cell cp (fun f => f)
              have hs := cnt5_succ m j hlt
              have hbd := cnt5_bd m j
              obtain ⟨y, hy⟩ : ∃ y, L5[j]?.getD 0 = y := ⟨_, rfl⟩
              obtain ⟨q, hq⟩ : ∃ q, cnt5 m j = q := ⟨_, rfl⟩
              rw [hy] at k3 hs
              rw [hq] at hs hbd ⊢
              have HS := Lib.hid hs
              clear hs cp hy hq
              by_cases hym : y = m
              · have hb : (y == m) = true := by simpa using hym
                go_wp2
                go_roundw
                case rel => exact ⟨j + 1, by omega, by go_num, by rw [HS.out, if_pos hym]; go_num, trivial⟩
                case measure => simp [intOf]; omega
              · have hb : (y == m) = false := by simpa using hym
                go_wp2
                go_roundw
                case rel => exact ⟨j + 1, by omega, by go_num, by rw [HS.out, if_neg hym]; rfl, trivial⟩
                case measure => simp [intOf]; omega
            · obtain rfl : j = 5 := by omega
              have h2 := cnt5_two m hm0 hm
              have h3 : decide ((2 : Int) < (cnt5 m 5 : Nat)) = false := decide_eq_false (by omega)
              go_wp2
              go_roundw
              case rel => exact ⟨m + 1, by omega, by omega, by go_num, trivial⟩
              case measure => simp [intOf]; omega
        · go_wp2
          go_ret
          exact ⟨rfl, HP2.out⟩
end Go.Proofs.Ytbiffhekbnmffaa
