/-
  Comparisons of slips; the least of them.
-/
import Derived.Test.YtbiffhekbnmffaaCf
namespace Go.Proofs.Ytbiffhekbnmffaa
open Go.RowKit

def cmpI (a b : Int) : Int := if a < b then -1 else if b < a then 1 else 0
def cmpS (a b : Int × Int) : Int := if cmpI a.1 b.1 ≠ 0 then cmpI a.1 b.1 else cmpI a.2 b.2

set_option maxHeartbeats 400000 in
theorem nan64_any (a : Int) (w : World) : Calls Try.prog 79 #[.int .i64 a] w fun e w' => e = .returned (.bool false) ∧ w = w' := by
  go_enter Try.func79, Try.ntmps79
  go_wp2
  go_ret
  exact ⟨by simp, rfl⟩
set_option maxHeartbeats 1000000 in
theorem compare64_any (a b : Int) (w : World) : Calls Try.prog 66 #[.int .i64 a, .int .i64 b] w fun e w' => e = .returned (.int .i64 (cmpI a b)) ∧ w = w' := by
  rcases (by omega : a < b ∨ (¬ a < b ∧ b < a) ∨ (¬ a < b ∧ ¬ b < a)) with h | ⟨h, h2⟩ | ⟨h, h2⟩
  all_goals
    go_enter Try.func66, Try.ntmps66
    go_wp2_with fail
    refine (nan64_any _ _).mono ?_
    rintro e w' ⟨rfl, rfl⟩
    go_wp2_with fail
    refine (nan64_any _ _).mono ?_
    rintro e w' ⟨rfl, rfl⟩
    go_wp2
    go_ret
  · exact ⟨by unfold cmpI; rw [if_pos h]; rfl, rfl⟩
  · exact ⟨by unfold cmpI; rw [if_neg (by omega), if_pos h2]; rfl, rfl⟩
  · exact ⟨by unfold cmpI; rw [if_neg (by omega), if_neg (by omega)]; rfl, rfl⟩

set_option maxHeartbeats 400000 in
theorem nan_any (a : Int) (w : World) : Calls Try.prog 80 #[.int .i64 a] w fun e w' => e = .returned (.bool false) ∧ w = w' := by
  go_enter Try.func80, Try.ntmps80
  go_wp2
  go_ret
  exact ⟨by simp, rfl⟩
set_option maxHeartbeats 1000000 in
theorem compare_any (a b : Int) (w : World) : Calls Try.prog 67 #[.int .i64 a, .int .i64 b] w fun e w' => e = .returned (.int .i64 (cmpI a b)) ∧ w = w' := by
  rcases (by omega : a < b ∨ (¬ a < b ∧ b < a) ∨ (¬ a < b ∧ ¬ b < a)) with h | ⟨h, h2⟩ | ⟨h, h2⟩
  all_goals
    go_enter Try.func67, Try.ntmps67
    go_wp2_with fail
    refine (nan_any _ _).mono ?_
    rintro e w' ⟨rfl, rfl⟩
    go_wp2_with fail
    refine (nan_any _ _).mono ?_
    rintro e w' ⟨rfl, rfl⟩
    go_wp2
    go_ret
  · exact ⟨by unfold cmpI; rw [if_pos h]; rfl, rfl⟩
  · exact ⟨by unfold cmpI; rw [if_neg (by omega), if_pos h2]; rfl, rfl⟩
  · exact ⟨by unfold cmpI; rw [if_neg (by omega), if_neg (by omega)]; rfl, rfl⟩

set_option maxHeartbeats 1000000 in
theorem or_any (D : Nat → Prop) (v : Value) (x y : Int) (w : World) (hv : Ints D w v [x, y]) : Calls Try.prog 65 #[v] w fun e w' => e = .returned (.int .i64 (if x ≠ 0 then x else y)) ∧ w = w' := by
  obtain ⟨a, len, cap, rfl, hlen, _, hm, hc⟩ := hv
  obtain rfl : len = 2 := hlen
  obtain ⟨b, off, rfl, _, h0⟩ := hc 0 (by decide)
  obtain ⟨b', off', hb', _, h1⟩ := hc 1 (by decide)
  cases hb'
  rw [Nat.add_zero] at h0
  simp only [List.getElem?_cons_zero, List.getElem?_cons_succ, Option.getD_some] at h0 h1
  clear hc hm
  by_cases hx : x = 0
  · subst hx
    go_enter Try.func65, Try.ntmps65
    go_wp2
    go_loop [8] (fun i => ∃ k : Nat, k ≤ 2 ∧ i = .int .i64 k ∧ (k = 2 → Hid (y = 0))) (fun i => 2 - (intOf i).toNat)
    case atStart => exact ⟨0, by omega, rfl, fun h => by omega⟩
    case round =>
      obtain ⟨k, hk, rfl, hy⟩ := hrel
      rcases (by omega : k = 0 ∨ k = 1 ∨ k = 2) with rfl | rfl | rfl
      · clear hy
        go_wp2
        go_round
        case rel => exact ⟨1, by omega, by go_num, fun h => by omega⟩
        case measure => simp [intOf]
      · clear hy
        by_cases hy0 : y = 0
        · have HY := Lib.hid hy0
          go_wp2
          go_round
          case rel => exact ⟨2, by omega, by go_num, fun h => HY⟩
          case measure => simp [intOf]
        · go_wp2
          go_ret
          exact ⟨by simp, rfl⟩
      · have HY := hy rfl
        clear hy
        go_wp2
        go_ret
        exact ⟨by simp [HY.out], rfl⟩
  · go_enter Try.func65, Try.ntmps65
    go_wp2
    go_loop [8] (fun i => i = .int .i64 0) (fun _ => 0)
    case atStart => rfl
    case round =>
      obtain rfl := hrel
      go_wp2
      go_ret
      exact ⟨by simp [hx], rfl⟩

theorem or_two (b : Nat) (x y : Int) (w : World) (h : w.cell? ⟨b, 0, none⟩ = some (.int .i64 x)) (h1 : w.cell? ⟨b, 1, none⟩ = some (.int .i64 y)) : Calls Try.prog 65 #[.slice (some ⟨b, 0, none⟩) 2 2] w fun e w' => e = .returned (.int .i64 (if x ≠ 0 then x else y)) ∧ w = w' := or_any _ _ x y w (ints2 h h1)
theorem cmp64_quiet (a b : Int) (w : World) (n : Nat) : Calls Try.prog 66 #[.int .i64 a, .int .i64 b] (w.drewN n) fun e w'' => e = .returned (.int .i64 (cmpI a b)) ∧ ∃ m, w'' = w.drewN m := (compare64_any a b _).mono fun _ _ ⟨he, hw⟩ => ⟨he, n, hw.symm⟩
theorem cmp_quiet (a b : Int) (w : World) (n : Nat) : Calls Try.prog 67 #[.int .i64 a, .int .i64 b] (w.drewN n) fun e w'' => e = .returned (.int .i64 (cmpI a b)) ∧ ∃ m, w'' = w.drewN m := (compare_any a b _).mono fun _ _ ⟨he, hw⟩ => ⟨he, n, hw.symm⟩

set_option maxHeartbeats 1000000 in
set_option maxRecDepth 100000 in
theorem slipcmp_any (a b : Int × Int) (w : World) : Calls Try.prog 64 #[.agg #[.int .i64 a.1, .int .i64 a.2], .agg #[.int .i64 b.1, .int .i64 b.2]] w fun e w' => e = .returned (.int .i64 (cmpS a b)) ∧ Pure w w' := by
  obtain ⟨a1, a2⟩ := a
  obtain ⟨b1, b2⟩ := b
  have hP : Pure w ((w.alloc (.cells #[.int .i64 a1, .int .i64 a2] 101)).alloc (.cells #[.int .i64 b1, .int .i64 b2] 101)) := ((Only.refl _ w).alloc _).alloc _
  have hdef : cmpS (a1, a2) (b1, b2) = if cmpI a1 b1 ≠ 0 then cmpI a1 b1 else cmpI a2 b2 := rfl
  have h66 := cmp64_quiet a1 b1
  have h67 := cmp_quiet a2 b2
  obtain ⟨x, hx⟩ : ∃ x, cmpI a1 b1 = x := ⟨_, rfl⟩
  obtain ⟨y, hy⟩ : ∃ y, cmpI a2 b2 = y := ⟨_, rfl⟩
  rw [hx, hy] at hdef
  simp only [hx] at h66
  simp only [hy] at h67
  obtain ⟨R, hR⟩ : ∃ R, (if x ≠ 0 then x else y) = R := ⟨_, rfl⟩
  have hor := fun b w h h1 => or_two b x y w h h1
  simp only [hR] at hor
  rw [hdef, hR]
  have HOR := Lib.hid hor
  clear hR hor
  have H66 := Lib.hid h66; have H67 := Lib.hid h67
  clear hdef h66 h67 hx hy
  go_enter Try.func64, Try.ntmps64
  go_wp2_with fail
  refine wp_region_drew_tail 10 (by kernel_rfl) (by kernel_rfl) ?_
  simp only [List.take_succ_cons, List.take_zero, List.drop_succ_cons, List.drop_zero]
  repeat (go_big_quiet_step (first | exact H66.out _ _ | exact H67.out _ _))
  refine wpQuiet_nil ?_
  rintro w' ⟨g, rfl⟩
  go_wp2_with fail
  refine (HOR.out _ _ (new_cell _ _ _ _ _ _ (by simp [World.drewN]) rfl) (new_cell _ _ _ _ _ _ (by simp [World.drewN]) rfl)).mono ?_
  rintro e w2 ⟨rfl, rfl⟩
  go_wp2
  go_ret
  exact ⟨rfl, ((hP.trans (pure_drewN _ _)).alloc _)⟩
end Go.Proofs.Ytbiffhekbnmffaa
