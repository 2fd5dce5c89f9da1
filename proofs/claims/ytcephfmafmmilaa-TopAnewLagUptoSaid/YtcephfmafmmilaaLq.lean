/-
  Seen.
-/
import Derived.Test.YtcephfmafmmilaaLo
namespace Go.Proofs.Ytcephfmafmmilaa
open Go.RowKit Go.Shelf

theorem sumTo_mono {r : List Int} (hb : ∀ i, 0 ≤ nAt r i ∧ nAt r i ≤ 10000) {a b : Nat} (hab : a ≤ b) (h : b ≤ r.length) : sumTo r a ≤ sumTo r b := by
  induction b with
  | zero => obtain rfl : a = 0 := by omega
            exact Int.le_refl _
  | succ b ih =>
    rcases (by omega : a = b + 1 ∨ a ≤ b) with rfl | h'
    · exact Int.le_refl _
    · have := ih h' (by omega); have := hb b; rw [sumTo_succ r b (by omega)]; omega
theorem atFrom_stop {d : List Int} {x : Int} {t f u : Nat} (h1 : ¬ u < t) (h2 : ¬ nAt d u < x) : atFrom d x t f u = u := by
  cases f with
  | zero => rfl
  | succ f => unfold atFrom; rw [if_neg]; rintro (h | h); exact h1 h; exact h2 h
theorem atFrom_step {d : List Int} {x : Int} {t f u : Nat} (h : u < t ∨ nAt d u < x) : atFrom d x t (f + 1) u = atFrom d x t f (u + 1) := by
  conv => lhs; unfold atFrom
  rw [if_pos h]
def seenTo (a d : List Int) (k : Nat) : Int × Int × Nat := (List.range k).foldl (seenStep a d) (0, 0, 0)
theorem seenTo_succ (a d : List Int) (k : Nat) : seenTo a d (k + 1) = seenStep a d (seenTo a d k) k := by unfold seenTo; rw [List.range_succ, List.foldl_append]; rfl

set_option maxHeartbeats 4000000 in
set_option maxRecDepth 100000 in
theorem Seen_any (D D' : Nat → Prop) (v v' : Value) (came added : List Int) (w : World) (hv : Ints D w v came) (hv' : Ints D' w v' added) :
    Calls Try.prog 32 #[v, v'] w fun e w' => e = .returned (.tuple #[.int .i64 (seenR came added).1, .int .i64 (seenR came added).2.1, .int .i64 (seenR came added).2.2]) ∧ Pure w w' := by
  have hdef : seenR came added = if pairE came added ≠ 0 then (0, 0, pairE came added) else if sumTo came came.length ≠ sumTo added came.length then (0, 0, 18)
    else ((seenTo (sumsOf came) (sumsOf added) (came.length + 1)).1, (seenTo (sumsOf came) (sumsOf added) (came.length + 1)).2.1, 0) := rfl
  have hpr := pair_any D D' v v' came added w hv hv'
  have hl1 : ∃ a c, v = .slice a came.length c := by obtain ⟨a, n, c, h, hl, _⟩ := hv; exact ⟨a, c, by rw [h, hl]⟩
  obtain ⟨a, cap, rfl⟩ := hl1
  obtain ⟨a', n', cap', rfl⟩ := hv'.form
  obtain ⟨p, hp⟩ : ∃ p, pairE came added = p := ⟨_, rfl⟩
  obtain ⟨R, hRR⟩ : ∃ R, seenR came added = R := ⟨_, rfl⟩
  rw [hRR] at hdef ⊢
  rw [hp] at hdef hpr
  obtain ⟨n, hn⟩ : ∃ n, came.length = n := ⟨_, rfl⟩
  rw [hn] at hpr hdef ⊢
  have HD := Lib.hid hdef; have HN := Lib.hid hn
  clear hdef hv hv' hp hRR hn
  go_enter Try.func32, Try.ntmps32
  go_wp2_with fail
  refine hpr.mono ?_
  rintro e w1 ⟨x, y, rfl, hpd, ⟨x1, x2, x3, rfl⟩, ⟨y1, y2, y3, rfl⟩, P1⟩
  have Q1 := Lib.hid P1; have HPD := Lib.hid hpd
  clear hpr P1 hpd
  by_cases hp0 : p = 0
  · subst hp0
    obtain ⟨N, g1, g2, hN, hl, l60, b1, b2, hx, hy, hg1, hg2, hh1, hh2⟩ := HPD.out rfl
    simp only [Value.slice.injEq] at hx hy
    obtain ⟨rfl, hx2, hx3⟩ := hx
    obtain ⟨rfl, hy2, hy3⟩ := hy
    have hx2 := hx2.symm; have hx3 := hx3.symm; have hy2 := hy2.symm; have hy3 := hy3.symm
    subst hx2 hx3 hy2 hy3
    rw [HN.out] at hN l60 hl
    have s1 := fun i (hi : i ≤ n) => sumsOf_get came i (by rw [HN.out]; exact hi)
    have s2 := fun i (hi : i ≤ n) => sumsOf_get added i (by rw [← hl]; exact hi)
    have t1 := fun i (hi : i < N) => arr_get hh1 i (by rw [sumsOf_len, HN.out, ← hN]; exact hi)
    have t2 := fun i (hi : i < N) => arr_get hh2 i (by rw [sumsOf_len, ← hl, ← hN]; exact hi)
    have B1 := Lib.hid (fun i => sumsOf_bd (by rw [HN.out]; exact l60) b1 i); have B2 := Lib.hid (fun i => sumsOf_bd (by rw [← hl]; exact l60) b2 i)
    have HM := Lib.hid (fun i (hi : i ≤ n) => sumTo_mono b1 hi (by rw [HN.out]; exact Nat.le_refl _))
    have S1 := Lib.hid s1; have S2 := Lib.hid s2; have T1 := Lib.hid t1; have T2 := Lib.hid t2; have HNN := Lib.hid hN; have HL60 := Lib.hid l60
    clear HPD s1 s2 t1 t2 b1 b2 hN hl l60 hh1 hh2
    have hnN : n < N := by have := HNN.out; omega
    have hn60 : n ≤ 60 := HL60.out
    have hN61 : N ≤ 61 := by have := HNN.out; omega
    have kn1 := T1.out n hnN
    have kn2 := T2.out n hnN
    have q1 := S1.out n (Nat.le_refl _); have q2 := S2.out n (Nat.le_refl _)
    unfold nAt at q1 q2
    obtain ⟨z1, hz1⟩ : ∃ z, sumTo came n = z := ⟨_, rfl⟩
    obtain ⟨z2, hz2⟩ : ∃ z, sumTo added n = z := ⟨_, rfl⟩
    rw [q1, hz1] at kn1
    rw [q2, hz2] at kn2
    have hd := HD.out
    rw [hz1, hz2] at hd
    have HD2 := Lib.hid hd; have HZ1 := Lib.hid hz1; have HZ2 := Lib.hid hz2
    clear hd q1 q2 hz1 hz2
    by_cases hz : z1 = z2
    · subst hz
      have hd3 := HD2.out
      rw [if_neg (by simp), if_neg (by simp)] at hd3
      have HD3 := Lib.hid hd3
      clear hd3
      go_wp2_with fail
      go_quiet (fail)
      go_wp2_with fail
      go_loopw [39, 10, 11, 12] (fun i x y u wr => ∃ (k : Nat) (m1 m2 : Int) (at' : Nat), k ≤ N ∧ i = .int .i64 k ∧ x = .int .i64 m1 ∧ y = .int .i64 m2 ∧ u = .int .i64 at' ∧ Hid (seenTo (sumsOf came) (sumsOf added) k = (m1, m2, at')) ∧ 0 ≤ m1 ∧ m1 ≤ 1000000 ∧ 0 ≤ m2 ∧ m2 ≤ 1000000 ∧ at' ≤ n ∧ Hid (Pure w1 wr)) (fun i _ _ _ _ => N - (intOf i).toNat)
      case atStart => exact ⟨0, 0, 0, 0, by omega, rfl, rfl, rfl, rfl, Lib.hid rfl, by omega, by omega, by omega, by omega, by omega, Lib.hid (by first | exact Only.refl _ _ | exact (Only.refl _ _).drew | exact (Only.refl _ _).drewN _)⟩
      case round =>
        obtain ⟨k, m1, m2, u, hk, rfl, rfl, rfl, rfl, hS, a1, a2, a3, a4, hu, hP⟩ := hrel
        by_cases hlt : k < N
        · have kk1 := hP.out.cell (T1.out k hlt) (fun f => f)
          have kk2 := hP.out.cell (T2.out k hlt) (fun f => f)
          have bb1 := B1.out k; have bb2 := B2.out k
          have hs := seenTo_succ (sumsOf came) (sumsOf added) k
          rw [hS.out] at hs
          unfold seenStep at hs
          unfold nAt at bb1 bb2 hs
          have hxk : (sumsOf came)[k]?.getD 0 = sumTo came k := S1.out k (by have := HNN.out; omega)
          have HXK := Lib.hid hxk
          obtain ⟨x, hx⟩ : ∃ z, (sumsOf came)[k]?.getD 0 = z := ⟨_, rfl⟩
          obtain ⟨y, hy⟩ : ∃ z, (sumsOf added)[k]?.getD 0 = z := ⟨_, rfl⟩
          rw [hx] at kk1 bb1
          rw [hy] at kk2 bb2
          simp only [hx, hy] at hs
          obtain ⟨m3, hm3⟩ : ∃ m, max m1 (x - y) = m := ⟨_, rfl⟩
          rw [hm3] at hs
          have HS := Lib.hid hs; have HX := Lib.hid hx
          have hm3b : 0 ≤ m3 ∧ m3 ≤ 1000000 := by omega
          have HM3 := Lib.hid hm3
          clear hxk hs hx hy hm3 hS
          have go : ∀ (P : Prop), (m1 < x - y ∧ m3 = x - y → P) → (¬ m1 < x - y ∧ m3 = m1 → P) → P := fun P h1 h2 => by
            have := HM3.out
            by_cases h : m1 < x - y
            · exact h1 ⟨h, by omega⟩
            · exact h2 ⟨h, by omega⟩
          have g0 := fun g => grow_cell kk1 g; have g1 := fun g => grow_cell kk2 g
          apply go
          all_goals
            rintro ⟨hmx, hm3⟩
            subst hm3
            clear go
            go_wp2_with fail
            refine mixed_start (by kernel_rfl) ?_
            refine mixed_take [0, 1, 2, 3, 4, 5, 6, 7, 8, 9, 10, 11] (by kernel_rfl) (Only.refl _ _).drew (fun d _ _ _ _ h => by cases d <;> exact h) 0 (by kernel_rfl) ?_
            simp only [picks, List.drop_succ_cons, List.drop_zero, List.take_succ_cons, List.take_zero, List.cons_append, List.nil_append]
            repeat (go_big_quiet_step (fail))
            refine wpQuiet_nil ?_
            refine wpAnyG_done (by kernel_rfl) ?_
            go_wp2_with fail
            clear g0 g1
            have hPW := Lib.hid (show Pure w1 wr.drew from hP.out.drew)
            clear hP
            go_loopw [12] (fun u' wq => ∃ (v : Nat) (f : Nat), v ≤ n ∧ u' = .int .i64 v ∧ n < f + v ∧ Hid (atFrom (sumsOf added) x k f v = atFrom (sumsOf added) x k 61 u) ∧ Hid (Pure w1 wq)) (fun u' _ => n - (intOf u').toNat)
            case atStart => exact ⟨u, 61, by omega, rfl, by have := HL60.out; omega, Lib.hid rfl, hPW⟩
            case round =>
              obtain ⟨v, f, hv, rfl, hf, hA, hQ⟩ := hrel
              have hvN : v < N := by omega
              have kv := hQ.out.cell (T2.out v hvN) (fun f => f)
              have kk := hQ.out.cell (T1.out k hlt) (fun f => f)
              obtain ⟨z, hz⟩ : ∃ z, (sumsOf added)[v]?.getD 0 = z := ⟨_, rfl⟩
              rw [hz] at kv
              rw [show (sumsOf came)[k]?.getD 0 = x from HX.out] at kk
              have HZ := Lib.hid (show nAt (sumsOf added) v = z from hz)
              clear hz
              have hmore : (v < k ∨ z < x) → v + 1 ≤ n := fun h => by
                rcases h with h | h
                · have := HNN.out; omega
                · rcases (by omega : v = n ∨ v + 1 ≤ n) with rfl | h'
                  · exfalso
                    have e1 := HZ.out; rw [S2.out v (Nat.le_refl _), HZ2.out] at e1
                    have e2 := HM.out k (by have := HNN.out; omega)
                    rw [HZ1.out] at e2
                    have e3 := HXK.out; rw [HX.out] at e3
                    omega
                  · exact h'
              have HMO := Lib.hid hmore
              clear hmore
              obtain ⟨f, rfl⟩ : ∃ f', f = f' + 1 := ⟨f - 1, by omega⟩
              by_cases hvk : v < k
              · have hd1 : decide ((v : Int) < (k : Int)) = true := by simpa using hvk
                have HN2 := Lib.hid (HMO.out (.inl hvk))
                have HAA := Lib.hid ((atFrom_step (f := f) (.inl hvk)).symm.trans hA.out)
                have HQ2 := Lib.hid hQ.out
                clear hA hQ
                go_wp2_with fail
                go_quiet (fail)
                go_wp2
                go_roundw
                case rel => exact ⟨v + 1, f, HN2.out, by go_num, by omega, HAA, Lib.hid (HQ2.out.drewN _)⟩
                case measure => have := HN2.out; simp [intOf]; omega
              · have hd1 : decide ((v : Int) < (k : Int)) = false := by simpa using hvk
                by_cases hzx : z < x
                · have hd2 : decide (z < x) = true := by simpa using hzx
                  have HN2 := Lib.hid (HMO.out (.inr hzx))
                  have HAA := Lib.hid ((atFrom_step (f := f) (.inr (by rw [HZ.out]; exact hzx))).symm.trans hA.out)
                  have HQ2 := Lib.hid hQ.out
                  clear hA hQ
                  go_wp2_with fail
                  go_quiet (fail)
                  go_wp2
                  go_roundw
                  case rel => exact ⟨v + 1, f, HN2.out, by go_num, by omega, HAA, Lib.hid (HQ2.out.drewN _)⟩
                  case measure => have := HN2.out; simp [intOf]; omega
                · have hd2 : decide (z < x) = false := by simpa using hzx
                  have HAA := Lib.hid ((atFrom_stop (f := f + 1) hvk (by rw [HZ.out]; exact hzx)).symm.trans hA.out)
                  have HQ2 := Lib.hid hQ.out
                  clear hA hQ
                  go_wp2_with fail
                  go_quiet (fail)
                  have hsv := HS.out
                  rw [← HAA.out] at hsv
                  have HS2 := Lib.hid hsv
                  clear hsv
                  by_cases hml : m2 < (v : Int) - k
                  · have em : max m2 ((v : Int) - k) = (v : Int) - k := by omega
                    have HS3 := Lib.hid (by have h := HS2.out; rw [em] at h; exact h)
                    clear em
                    go_wp2
                    go_roundw
                    case rel => exact ⟨k + 1, _, _, v, by omega, by go_num, rfl, by go_num, rfl, HS3, by omega, by omega, by omega, by have := HL60.out; omega, hv, Lib.hid (HQ2.out.drewN _)⟩
                    case measure => simp [intOf]; omega
                  · have em : max m2 ((v : Int) - k) = m2 := by omega
                    have HS3 := Lib.hid (by have h := HS2.out; rw [em] at h; exact h)
                    clear em
                    go_wp2
                    go_roundw
                    case rel => exact ⟨k + 1, _, _, v, by omega, by go_num, rfl, rfl, rfl, HS3, by omega, by omega, by omega, by omega, hv, Lib.hid (HQ2.out.drewN _)⟩
                    case measure => simp [intOf]; omega
        · obtain rfl : k = N := by omega
          have HX := Lib.hid (show R = (m1, m2, 0) from by rw [HD3.out, ← HNN.out, hS.out])
          have HQ := Lib.hid (Q1.out.trans hP.out)
          clear hS hP
          go_wp2
          go_ret3
          exact ⟨by rw [HX.out]; rfl, HQ.out⟩
    · have hzb : (z1 == z2) = false := by simpa using hz
      have HX := Lib.hid (show R = (0, 0, 18) from by rw [HD2.out, if_neg (by simp), if_pos hz])
      go_wp2_with fail
      go_quiet (fail)
      go_wp2
      go_ret3
      exact ⟨by rw [HX.out]; rfl, Q1.out.drewN _⟩
  · have hpb : (p == 0) = false := by simpa using hp0
    have HX := Lib.hid (show R = (0, 0, p) from by rw [HD.out, if_pos hp0])
    go_wp2
    go_ret3
    exact ⟨by rw [HX.out]; rfl, Q1.out⟩
end Go.Proofs.Ytcephfmafmmilaa
