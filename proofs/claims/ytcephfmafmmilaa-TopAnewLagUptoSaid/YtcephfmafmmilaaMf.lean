/-
  The examples of Wait, Late and Behind.
-/
import Derived.Test.YtcephfmafmmilaaMc
namespace Go.Proofs.Ytcephfmafmmilaa
open Go.RowKit

theorem smallTo_ge {f : Nat → Int} {B : Int} : ∀ {n : Nat}, (∀ k, k ≤ n → B ≤ f k) → B ≤ smallTo f n
  | 0, h => h 0 (Nat.le_refl _)
  | n + 1, h => by
    have a := smallTo_ge (n := n) (fun k hk => h k (by omega)); have b := h (n + 1) (Nat.le_refl _)
    unfold smallTo; omega
theorem smallTo_le_at {f : Nat → Int} : ∀ {n k : Nat}, k ≤ n → smallTo f n ≤ f k
  | 0, k, h => by obtain rfl : k = 0 := by omega
                  exact Int.le_refl _
  | n + 1, k, h => by
    unfold smallTo
    rcases (by omega : k = n + 1 ∨ k ≤ n) with rfl | h'
    · omega
    · have := smallTo_le_at (f := f) h'; omega
theorem bestTo_eq {f : Nat → Int} {n : Nat} {B : Int} (h0 : 0 ≤ B) (h : ∀ k, k ≤ n → f k ≤ B) (k : Nat) (hk : k ≤ n) (he : f k = B) : bestTo f n = B := by
  unfold bestTo
  have a : -B ≤ smallTo (fun k => -(f k)) n := smallTo_ge (fun k hk => by have := h k hk; omega)
  have b := smallTo_le_at (f := fun k => -(f k)) hk
  omega

theorem mA_step (k : Nat) : mostOf cA (k + 3) = min (min (3 + mostOf cA (k + 2)) (4 + mostOf cA (k + 1))) (4 + mostOf cA k) := by
  have hg : GoodC cA := good_of (by decide)
  have b0 := mostOf_bd hg.1 hg.2.2 k
  have b1 := mostOf_bd hg.1 hg.2.2 (k + 1)
  have b2 := mostOf_bd hg.1 hg.2.2 (k + 2)
  rw [mostOf_succ]
  unfold mostNext
  rw [show min cA.length (k + 2 + 1) = 3 from by show min 3 (k + 2 + 1) = 3; omega]
  simp only [List.range_succ, List.range_zero, List.nil_append, List.foldl_append, List.foldl_cons, List.foldl_nil]
  unfold mostStep
  dsimp only
  rw [show k + 2 + 1 - (0 + 1) = k + 2 by omega, show k + 2 + 1 - (1 + 1) = k + 1 by omega, show k + 2 + 1 - (2 + 1) = k by omega, mosts_get cA (k + 2) (k + 2) (by omega), mosts_get cA (k + 2) (k + 1) (by omega), mosts_get cA (k + 2) k (by omega)]
  rw [show nAt cA 0 = 3 from rfl, show nAt cA 1 = 4 from rfl, show nAt cA 2 = 4 from rfl]
  generalize mostOf cA k = x at *; generalize mostOf cA (k + 1) = y at *; generalize mostOf cA (k + 2) = z at *
  rw [if_pos (show (-1 : Int) < 0 ∨ 3 + z < -1 from .inl (by omega))]
  split <;> split <;> omega
theorem mA (j : Nat) : mostOf cA (3 * j) = 4 * j ∧ mostOf cA (3 * j + 1) = 4 * j + 3 ∧ mostOf cA (3 * j + 2) = 4 * j + 4 := by
  induction j with
  | zero => decide
  | succ j ih =>
    obtain ⟨h0, h1, h2⟩ := ih
    have s0 := mA_step (3 * j)
    have s1 := mA_step (3 * j + 1)
    have s2 := mA_step (3 * j + 2)
    rw [show 3 * (j + 1) = 3 * j + 3 by omega]
    rw [show 3 * j + 1 + 3 = 3 * j + 3 + 1 by omega, show 3 * j + 1 + 2 = 3 * j + 3 by omega, show 3 * j + 1 + 1 = 3 * j + 2 by omega] at s1
    rw [show 3 * j + 2 + 3 = 3 * j + 3 + 2 by omega, show 3 * j + 2 + 2 = 3 * j + 3 + 1 by omega, show 3 * j + 2 + 1 = 3 * j + 3 by omega] at s2
    push_cast
    omega
theorem three (k : Nat) : ∃ j r, r < 3 ∧ k = 3 * j + r := ⟨k / 3, k % 3, by omega, by omega⟩
theorem lB (k : Nat) : ∃ j : Nat, (k = 3 * j ∧ least1 cB k = 4 * j) ∨ (k = 3 * j + 1 ∧ least1 cB k = 4 * j) ∨ (k = 3 * j + 2 ∧ least1 cB k = 4 * j + 2) := by
  obtain ⟨j, r, hr, rfl⟩ := three k
  have hl : cB.length = 3 := rfl
  have hd : (3 * j + r) / 3 = j := by omega
  have hm : (3 * j + r) % 3 = r := by omega
  refine ⟨j, ?_⟩
  unfold least1
  rw [hl, hd, hm]
  have e2 : nAt cB (3 - 1) = 4 := rfl
  rw [e2]
  rcases (by omega : r = 0 ∨ r = 1 ∨ r = 2) with rfl | rfl | rfl
  · left; simp; omega
  · right; left; refine ⟨rfl, ?_⟩; rw [if_pos (by omega), show nAt cB (1 - 1) = 0 from rfl]; omega
  · right; right; refine ⟨rfl, ?_⟩; rw [if_pos (by omega), show nAt cB (2 - 1) = 2 from rfl]; omega
theorem mAk (k : Nat) : ∃ j : Nat, (k = 3 * j ∧ mostOf cA k = 4 * j) ∨ (k = 3 * j + 1 ∧ mostOf cA k = 4 * j + 3) ∨ (k = 3 * j + 2 ∧ mostOf cA k = 4 * j + 4) := by
  obtain ⟨j, r, hr, rfl⟩ := three k
  have h := mA j
  refine ⟨j, ?_⟩
  rcases (by omega : r = 0 ∨ r = 1 ∨ r = 2) with rfl | rfl | rfl
  · exact .inl ⟨rfl, h.1⟩
  · exact .inr (.inl ⟨rfl, h.2.1⟩)
  · exact .inr (.inr ⟨rfl, h.2.2⟩)
theorem one_get (k : Nat) (hk : k ≤ 360) : nAt (leasts [cB] 360) k = least1 cB k := by
  show nAt ((List.range 361).map (least1 cB)) k = _
  rw [range_nAt, if_pos (by omega)]
theorem two_get (k : Nat) (hk : k ≤ 360) : nAt (leasts [cB, cB] 360) k = smallTo (fun p => least1 cB (k - p) + least1 cB p) k := by
  show nAt ((List.range 361).map fun k => smallTo (fun p => nAt ((List.range 361).map (least1 cB)) (k - p) + least1 cB p) k) k = _
  rw [range_nAt, if_pos (by omega)]
  congr 1
  funext p
  rw [range_nAt, if_pos (by omega)]

theorem wait_ex : waitR cA [cB, cB] = (4, 0) := by
  unfold waitR
  rw [if_neg (by decide +kernel)]
  have : bestTo (fun k => mostOf cA k - nAt (leasts [cB, cB] 360) k) 180 = 4 := by
    refine bestTo_eq (by omega) (fun k hk => ?_) 2 (by omega) ?_
    · rw [two_get k (by omega)]
      have hs : mostOf cA k - 4 ≤ smallTo (fun p => least1 cB (k - p) + least1 cB p) k := smallTo_ge (fun p hp => by
        obtain ⟨j, hj⟩ := mAk k
        obtain ⟨u, hu⟩ := lB (k - p)
        obtain ⟨v, hv⟩ := lB p
        omega)
      omega
    · rw [two_get 2 (by omega)]; decide
  rw [this]
theorem late_ex : lateR cA [cB] = (2, 0) := by
  unfold lateR
  rw [if_neg (by decide +kernel)]
  have hlen : (leasts [cB] 360).length = 361 := leasts_len [cB] 360 (by decide)
  have : bestTo (fun k => (lateAt cA (leasts [cB] 360) k 361 k : Int) - k) 180 = 2 := by
    refine bestTo_eq (by omega) (fun k hk => ?_) 1 (by omega) ?_
    · have hst : ¬ (k + 1 + 1 + 1 < (leasts [cB] 360).length ∧ nAt (leasts [cB] 360) (k + 1 + 1) < mostOf cA k) := fun h => by
        have h2 := h.2
        rw [one_get (k + 1 + 1) (by omega)] at h2
        obtain ⟨j, hj⟩ := mAk k
        obtain ⟨u, hu⟩ := lB (k + 1 + 1)
        omega
      have hle : lateAt cA (leasts [cB] 360) k 361 k ≤ k + 2 := by
        by_cases c0 : k + 1 < (leasts [cB] 360).length ∧ nAt (leasts [cB] 360) k < mostOf cA k
        · rw [show 361 = 360 + 1 from rfl, lateAt_step c0]
          by_cases c1 : k + 1 + 1 < (leasts [cB] 360).length ∧ nAt (leasts [cB] 360) (k + 1) < mostOf cA k
          · rw [show 360 = 359 + 1 from rfl, lateAt_step c1, lateAt_stop hst]; omega
          · rw [lateAt_stop c1]; omega
        · rw [lateAt_stop c0]; omega
      omega
    · have m1 : mostOf cA 1 = 3 := by decide
      have c0 : 1 + 1 < (leasts [cB] 360).length ∧ nAt (leasts [cB] 360) 1 < mostOf cA 1 := ⟨by rw [hlen]; omega, by rw [one_get 1 (by omega), m1]; decide⟩
      have c1 : 1 + 1 + 1 < (leasts [cB] 360).length ∧ nAt (leasts [cB] 360) (1 + 1) < mostOf cA 1 := ⟨by rw [hlen]; omega, by rw [one_get (1 + 1) (by omega), m1]; decide⟩
      have c2 : ¬ (1 + 1 + 1 + 1 < (leasts [cB] 360).length ∧ nAt (leasts [cB] 360) (1 + 1 + 1) < mostOf cA 1) := fun h => by
        have h2 := h.2; rw [one_get (1 + 1 + 1) (by omega), m1] at h2; exact absurd h2 (by decide)
      rw [show 361 = 359 + 1 + 1 from rfl, lateAt_step c0, lateAt_step c1, lateAt_stop c2]; rfl
  rw [this]
theorem behind_ex : behindR cA [cB] = ([4, 5, 7], 0) := by
  unfold behindR
  rw [if_neg (by decide +kernel)]
  have h0 : bestTo (fun u => mostOf cA (0 + 1 + u) - nAt (leasts [cB] 360) u) 180 = 4 := by
    refine bestTo_eq (by omega) (fun k hk => ?_) 1 (by omega) (by rw [one_get 1 (by omega)]; decide)
    rw [one_get k (by omega)]
    obtain ⟨j, hj⟩ := mAk (0 + 1 + k); obtain ⟨u, hu⟩ := lB k; omega
  have h1 : bestTo (fun u => mostOf cA (1 + 1 + u) - nAt (leasts [cB] 360) u) 180 = 5 := by
    refine bestTo_eq (by omega) (fun k hk => ?_) 2 (by omega) (by rw [one_get 2 (by omega)]; decide)
    rw [one_get k (by omega)]
    obtain ⟨j, hj⟩ := mAk (1 + 1 + k); obtain ⟨u, hu⟩ := lB k; omega
  have h2 : bestTo (fun u => mostOf cA (2 + 1 + u) - nAt (leasts [cB] 360) u) 180 = 7 := by
    refine bestTo_eq (by omega) (fun k hk => ?_) 1 (by omega) (by rw [one_get 1 (by omega)]; decide)
    rw [one_get k (by omega)]
    obtain ⟨j, hj⟩ := mAk (2 + 1 + k); obtain ⟨u, hu⟩ := lB k; omega
  rw [show cA.length = 3 from rfl]
  simp only [List.range_succ, List.range_zero, List.nil_append, List.map_append, List.map_cons, List.map_nil, List.cons_append]
  rw [h0, h1, h2]
end Go.Proofs.Ytcephfmafmmilaa
