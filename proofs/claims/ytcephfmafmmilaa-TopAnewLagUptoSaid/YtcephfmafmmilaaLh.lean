/-
  pair.
-/
import Derived.Test.YtcephfmafmmilaaLg
namespace Go.Proofs.Ytcephfmafmmilaa
open Go.RowKit Go.Shelf

theorem two_lists {D : Nat → Prop} {w : World} {u1 u2 : Value} {l1 l2 : List Int} (h1 : Ints D w u1 l1) (h2 : Ints D w u2 l2) :
    Lists (fun _ => True) (w.alloc (.cells #[u1, u2] 22)) (.slice (some ⟨w.heap.size, 0, none⟩) 2 2) [l1, l2] := by
  have hP := (Only.refl (fun _ => False) w).alloc (.cells #[u1, u2] 22)
  have h := World.alloc_heap_new w (.cells #[u1, u2] 22)
  refine ⟨_, 2, 2, rfl, rfl, Nat.le_refl _, by decide, fun i hi => ?_⟩
  rcases (by omega : i = 0 ∨ i = 1) with rfl | rfl
  · exact ⟨w.heap.size, 0, u1, rfl, trivial, cell_of_row _ _ _ _ _ _ h, (h1.pure hP).any (fun _ _ => trivial)⟩
  · exact ⟨w.heap.size, 0, u2, rfl, trivial, cell_of_row _ _ _ _ _ _ h, (h2.pure hP).any (fun _ _ => trivial)⟩
theorem one_list {D : Nat → Prop} {w : World} {u1 : Value} {l1 : List Int} (h1 : Ints D w u1 l1) :
    Lists (fun _ => True) (w.alloc (.cells #[u1] 22)) (.slice (some ⟨w.heap.size, 0, none⟩) 1 1) [l1] := by
  have hP := (Only.refl (fun _ => False) w).alloc (.cells #[u1] 22)
  have h := World.alloc_heap_new w (.cells #[u1] 22)
  refine ⟨_, 1, 1, rfl, rfl, Nat.le_refl _, by decide, fun i hi => ?_⟩
  obtain rfl : i = 0 := by omega
  exact ⟨w.heap.size, 0, u1, rfl, trivial, cell_of_row _ _ _ _ _ _ h, (h1.pure hP).any (fun _ _ => trivial)⟩
theorem row_of {r : List Int} (h : checkRow r = 0) : r.length ≤ 60 ∧ ∀ i, 0 ≤ nAt r i ∧ nAt r i ≤ 10000 := by
  unfold checkRow at h
  by_cases h60 : 60 < r.length
  · rw [if_pos h60] at h; simp at h
  · rw [if_neg h60] at h
    cases h2 : withinB 0 10000 r with
    | false => rw [h2] at h; simp at h
    | true =>
      refine ⟨by omega, fun i => ?_⟩
      by_cases hi : i < r.length
      · exact withinB_iff.1 h2 i hi
      · simp [nAt, List.getElem?_eq_none (show r.length ≤ i by omega)]
theorem rowsE_two (a b : List Int) : rowsE [a, b] = if checkRow a ≠ 0 then checkRow a else if checkRow b ≠ 0 then checkRow b else 0 := rfl
theorem rowsE_one (a : List Int) : rowsE [a] = if checkRow a ≠ 0 then checkRow a else 0 := rfl
theorem rowsE_one' (a : List Int) : rowsE [a] = checkRow a := by rw [rowsE_one]; split <;> simp_all

/-- The two rows' sums, behind the check. -/
def Paired (w w' : World) (came added : List Int) (x y : Value) : Prop :=
  ∃ N g1 g2, N = came.length + 1 ∧ came.length = added.length ∧ came.length ≤ 60 ∧ (∀ i, 0 ≤ nAt came i ∧ nAt came i ≤ 10000) ∧ (∀ i, 0 ≤ nAt added i ∧ nAt added i ≤ 10000) ∧ x = .slice (some ⟨g1, 0, none⟩) N N ∧ y = .slice (some ⟨g2, 0, none⟩) N N ∧ w.heap.size ≤ g1 ∧ w.heap.size ≤ g2 ∧
    w'.heap[g1]? = some (.cells ((sumsOf came).map (Value.int .i64)).toArray 2 (0, 0)) ∧ w'.heap[g2]? = some (.cells ((sumsOf added).map (Value.int .i64)).toArray 2 (0, 0))

set_option maxHeartbeats 2000000 in
set_option maxRecDepth 100000 in
theorem pair_any (D D' : Nat → Prop) (v v' : Value) (came added : List Int) (w : World) (hv : Ints D w v came) (hv' : Ints D' w v' added) :
    Calls Try.prog 57 #[v, v'] w fun e w' => ∃ x y, e = .returned (.tuple #[x, y, .int .i64 (pairE came added)]) ∧ (pairE came added = 0 → Paired w w' came added x y) ∧ (∃ a n c, x = .slice a n c) ∧ (∃ a n c, y = .slice a n c) ∧ Pure w w' := by
  have hdef : pairE came added = if rowsE [came, added] ≠ 0 then rowsE [came, added] else if came.length ≠ added.length then 15 else if (List.range (came.length + 1)).any (fun t => decide (sumTo came t < sumTo added t)) then 14 else 0 := by
    rw [rowsE_two]; unfold pairE
    by_cases h1 : checkRow came = 0
    · by_cases h2 : checkRow added = 0
      · simp [h1, h2]
      · simp [h1, h2]
    · simp [h1]
  have hgood : rowsE [came, added] = 0 → checkRow came = 0 ∧ checkRow added = 0 := fun h => by
    rw [rowsE_two] at h
    by_cases h1 : checkRow came = 0
    · by_cases h2 : checkRow added = 0
      · exact ⟨h1, h2⟩
      · rw [if_neg (by simpa using h1), if_pos h2] at h; exact absurd h h2
    · rw [if_pos h1] at h; exact absurd h h1
  have hR := hv; have hR' := hv'
  obtain ⟨a, n, cap, rfl, hn⟩ : ∃ a n c, v = .slice a n c ∧ n = came.length := by obtain ⟨a, n, c, h, hl, _⟩ := hv; exact ⟨a, n, c, h, hl⟩
  obtain ⟨a', n', cap', rfl, hn'⟩ : ∃ a n c, v' = .slice a n c ∧ n = added.length := by obtain ⟨a, n, c, h, hl, _⟩ := hv'; exact ⟨a, n, c, h, hl⟩
  obtain ⟨R, hRR⟩ : ∃ R, pairE came added = R := ⟨_, rfl⟩
  rw [hRR] at hdef ⊢
  have hch := checkRows_any (fun _ => True) _ _ _ (two_lists (hR.any (D' := fun _ => True) (fun _ _ => trivial)) (hR'.any (D' := fun _ => True) (fun _ _ => trivial)))
  obtain ⟨s, hs⟩ : ∃ s, rowsE [came, added] = s := ⟨_, rfl⟩
  rw [hs] at hdef hch hgood
  have HD := Lib.hid hdef; have HR := Lib.hid hR; have HR' := Lib.hid hR'; have HN := Lib.hid hn; have HN' := Lib.hid hn'; have HG := Lib.hid hgood
  clear hdef hR hR' hv hv' hn hn' hgood hs hRR
  go_enter Try.func57, Try.ntmps57
  go_wp2_with fail
  refine hch.mono ?_
  rintro e w1 ⟨rfl, P1⟩
  have Q1 := Lib.hid (((Only.refl (fun _ => False) w).alloc (.cells #[.slice a n cap, .slice a' n' cap'] 22)).trans P1)
  clear hch P1
  by_cases hs0 : s = 0
  · subst hs0
    obtain ⟨h1, h2⟩ := HG.out rfl
    obtain ⟨l1, b1⟩ := row_of h1
    obtain ⟨l2, b2⟩ := row_of h2
    by_cases hnn : n = n'
    · subst hnn
      have hs1 := sums_any D _ came w1 (HR.out.pure Q1.out) l1 b1
      rw [← HN.out] at hs1
      have B1 := Lib.hid b1; have B2 := Lib.hid b2
      have L1 := Lib.hid l1; have L2 := Lib.hid l2
      clear b1 b2 h1 h2 l1 l2
      go_wp2_with fail
      refine hs1.mono ?_
      rintro e w2 ⟨rfl, o1, P2⟩
      have Q2 := Lib.hid (Q1.out.trans P2)
      have hs2 := sums_any D' _ added w2 (HR'.out.pure Q2.out) L2.out B2.out
      rw [← HN'.out] at hs2
      have O1 := Lib.hid (owns_full o1)
      clear hs1 o1 P2
      go_wp2_with fail
      refine hs2.mono ?_
      rintro e w3 ⟨rfl, o2, P3⟩
      have Q3 := Lib.hid (Q2.out.trans P3)
      have H1 := Lib.hid (P3.heap O1.out.1 (fun f => f))
      have H2 := Lib.hid (owns_full o2).1
      have hg1 : w.heap.size ≤ w1.heap.size := Q1.out.size
      have hg2 : w.heap.size ≤ w2.heap.size := Q2.out.size
      clear hs2 o2 P3
      generalize w1.heap.size = g1 at H1 hg1 ⊢
      generalize w2.heap.size = g2 at H2 hg2 ⊢
      obtain ⟨N, hN⟩ : ∃ N, n + 1 = N := ⟨_, rfl⟩
      rw [hN]
      have HNN := Lib.hid hN
      clear hN
      go_wp2_with fail
      have hd := HD.out
      rw [if_neg (by simp), if_neg (by rw [← HN.out, ← HN'.out]; simp), ← HN.out, HNN.out] at hd
      have HD2 := Lib.hid hd
      have hN61 : N ≤ 61 := by have := HNN.out; have := HN.out; have := L1.out; omega
      clear hd
      go_loopw [31] (fun i wr => ∃ k : Nat, k ≤ N ∧ i = .int .i64 k ∧ Hid (∀ j, j < k → sumTo added j ≤ sumTo came j) ∧ wr.heap[g1]? = some (.cells ((sumsOf came).map (Value.int .i64)).toArray 2 (0, 0)) ∧ wr.heap[g2]? = some (.cells ((sumsOf added).map (Value.int .i64)).toArray 2 (0, 0)) ∧ Pure w wr) (fun i _ => N - (intOf i).toNat)
      case atStart => exact ⟨0, by omega, rfl, Lib.hid (fun j hj => by omega), H1.out, H2.out, Q3.out⟩
      case round =>
        obtain ⟨k, hk, rfl, hI, hh1, hh2, hP⟩ := hrel
        by_cases hlt : k < N
        · have k1 := arr_get hh1 k (by rw [sumsOf_len, ← HN.out, HNN.out]; exact hlt)
          have k2 := arr_get hh2 k (by rw [sumsOf_len, ← HN'.out, HNN.out]; exact hlt)
          have g1' := sumsOf_get came k (by have := HNN.out; rw [← HN.out]; omega)
          have g2' := sumsOf_get added k (by have := HNN.out; rw [← HN'.out]; omega)
          unfold nAt at g1' g2'
          rw [g1'] at k1
          rw [g2'] at k2
          obtain ⟨x, hx⟩ : ∃ x, sumTo came k = x := ⟨_, rfl⟩
          obtain ⟨y, hy⟩ : ∃ y, sumTo added k = y := ⟨_, rfl⟩
          rw [hx] at k1
          rw [hy] at k2
          have HX := Lib.hid hx; have HY := Lib.hid hy; have HH1 := Lib.hid hh1; have HH2 := Lib.hid hh2; have HP := Lib.hid hP
          clear g1' g2' hx hy hh1 hh2 hP
          by_cases hxy : x < y
          · have HZ := Lib.hid (show R = 14 from by rw [HD2.out, if_pos (by rw [List.any_eq_true]; exact ⟨k, by simpa using hlt, by rw [HX.out, HY.out]; simpa using hxy⟩)])
            go_wp2_with fail
            go_region
            go_wp2
            go_ret3
            exact ⟨.slice none 0 0, .slice none 0 0, by rw [HZ.out]; rfl, fun h => absurd (HZ.out.symm.trans h) (by decide), ⟨_, _, _, rfl⟩, ⟨_, _, _, rfl⟩, HP.out.drew⟩
          · go_wp2_with fail
            go_region
            go_wp2
            go_roundw
            case rel => exact ⟨k + 1, by omega, by go_num, Lib.hid (fun j hj => by rcases (by omega : j < k ∨ j = k) with h | rfl; exact hI.out j h; rw [HX.out, HY.out]; omega), HH1.out, HH2.out, HP.out.drew⟩
            case measure => simp [intOf]; omega
        · obtain rfl : k = N := by omega
          have HZ := Lib.hid (show R = 0 from by
            rw [HD2.out, if_neg]
            rw [List.any_eq_true]
            rintro ⟨j, hj, h⟩
            have a1 := hI.out j (by simpa using hj)
            have a2 : sumTo came j < sumTo added j := by simpa using h
            omega)
          have HH1 := Lib.hid hh1; have HH2 := Lib.hid hh2; have HP := Lib.hid hP
          clear hh1 hh2 hP
          go_wp2
          go_ret3
          exact ⟨_, _, by rw [HZ.out]; rfl, fun _ => ⟨k, g1, g2, by rw [← HN.out]; exact HNN.out.symm, by rw [← HN.out]; exact HN'.out, L1.out, B1.out, B2.out, rfl, rfl, hg1, hg2, HH1.out, HH2.out⟩, ⟨_, _, _, rfl⟩, ⟨_, _, _, rfl⟩, HP.out⟩
    · have hnb : (n : Int) ≠ n' := by omega
      have hnb2 : ((n : Int) == n') = false := by simpa using hnb
      have HX := Lib.hid (show R = 15 from by rw [HD.out, if_neg (by simp), if_pos (by rw [← HN.out, ← HN'.out]; exact hnn)])
      go_wp2
      go_ret3
      exact ⟨.slice none 0 0, .slice none 0 0, by rw [HX.out]; rfl, fun h => absurd (HX.out.symm.trans h) (by decide), ⟨_, _, _, rfl⟩, ⟨_, _, _, rfl⟩, Q1.out⟩
  · have hsb : (s == 0) = false := by simpa using hs0
    have HX := Lib.hid (show R = s from by rw [HD.out, if_pos hs0])
    go_wp2
    go_ret3
    exact ⟨.slice none 0 0, .slice none 0 0, by rw [HX.out]; rfl, fun h => absurd (HX.out.symm.trans h) hs0, ⟨_, _, _, rfl⟩, ⟨_, _, _, rfl⟩, Q1.out⟩
end Go.Proofs.Ytcephfmafmmilaa
