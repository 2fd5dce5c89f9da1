/-
  Parts of the proof: Oh, Og, Oy, Oz, Same, Again, Wipe, Pl, Ph, Pi, Pj.
-/
import Derived.Test.YthnjfekkngpbjaaJe
import Derived.Deep.AppendLies
/- CheckNear. -/
namespace Go.Proofs.Ythnjfekkngpbjaa
open Go.RowKit Go.Shelf

theorem cn1 {r : Fr} {step : Int} {lo hi : Fr} (h : askedE r step ≠ 0) : checkNear r step lo hi = askedE r step := by unfold checkNear; rw [if_pos h]
theorem cn2 {r : Fr} {step : Int} {lo hi : Fr} (h : askedE r step = 0) : checkNear r step lo hi = if (!withinB 1 step [lo.2, hi.2] || !withinB 0 (wrap64 (1001 * step)) [lo.1, hi.1]) then 14 else
  if (lessB r lo || !lessB r hi || !decide (wrap64 (wrap64 (hi.1 * lo.2) - wrap64 (lo.1 * hi.2)) = 1) || decide (wrap64 (lo.2 + hi.2) ≤ step)) then 14 else 0 := by unfold checkNear; rw [if_neg (fun k => k h)]

set_option maxHeartbeats 2000000 in
set_option maxRecDepth 100000 in
theorem CheckNear_any (r : Fr) (step : Int) (lo hi : Fr) (w : World) : Calls Try.prog 12 #[(Value.agg #[Value.int IntKind.i64 (Prod.fst (r)), Value.int IntKind.i64 (Prod.snd (r))]), .int .i64 step, (Value.agg #[Value.int IntKind.i64 (Prod.fst (lo)), Value.int IntKind.i64 (Prod.snd (lo))]), (Value.agg #[Value.int IntKind.i64 (Prod.fst (hi)), Value.int IntKind.i64 (Prod.snd (hi))])] w fun e w' => e = .returned (.int .i64 (checkNear r step lo hi)) ∧ Pure w w' := by
  obtain ⟨w3, hw3⟩ : ∃ x, x = ((w.alloc (.cells #[.int .i64 r.1, .int .i64 r.2] 23)).alloc (.cells #[.int .i64 lo.1, .int .i64 lo.2] 23)).alloc (.cells #[.int .i64 hi.1, .int .i64 hi.2] 23) := ⟨_, rfl⟩
  have hP3 : Pure w w3 := by rw [hw3]; exact lay_pure [_, _, _] w
  have k0 : w3.heap[w.heap.size]? = some (.cells #[.int .i64 r.1, .int .i64 r.2] 23) := by rw [hw3]; exact lay_row [_, _, _] w 0 _ rfl
  have k1 : w3.heap[w.heap.size + 1]? = some (.cells #[.int .i64 lo.1, .int .i64 lo.2] 23) := by rw [hw3]; exact lay_row [_, _, _] w 1 _ rfl
  have k2 : w3.heap[w.heap.size + 1 + 1]? = some (.cells #[.int .i64 hi.1, .int .i64 hi.2] 23) := by rw [hw3]; exact lay_row [_, _, _] w 2 _ rfl
  have HW := Lib.hid hw3; have HP := Lib.hid hP3; have K0 := Lib.hid k0; have K1 := Lib.hid k1; have K2 := Lib.hid k2
  clear hw3 hP3 k0 k1 k2
  have hask := fun W => asked_any r step W
  by_cases he : askedE r step = 0
  · rw [cn2 he]
    rw [he] at hask
    have HASK := Lib.hid hask
    clear hask
    obtain ⟨q1, q2, q3, q4, q5, q6⟩ := asked_zero he
    have hs1 : wrap64 (1001 * step) = 1001 * step := by unfold wrap64; omega
    obtain ⟨X, hX⟩ : ∃ X, (if (!withinB 1 step [lo.2, hi.2] || !withinB 0 (wrap64 (1001 * step)) [lo.1, hi.1]) then (14 : Int) else
      if (lessB r lo || !lessB r hi || !decide (wrap64 (wrap64 (hi.1 * lo.2) - wrap64 (lo.1 * hi.2)) = 1) || decide (wrap64 (lo.2 + hi.2) ≤ step)) then 14 else 0) = X := ⟨_, rfl⟩
    rw [hX]
    obtain ⟨D, hD⟩ : ∃ D, wrap64 (wrap64 (hi.1 * lo.2) - wrap64 (lo.1 * hi.2)) = D := ⟨_, rfl⟩
    obtain ⟨S, hS⟩ : ∃ S, wrap64 (lo.2 + hi.2) = S := ⟨_, rfl⟩
    rw [hD, hS, hs1] at hX
    have HX := Lib.hid hX
    clear hX q1 q2 q3 q4 he
    go_enter Try.func12, Try.ntmps12
    go_wp2_with fail
    rw [← HW.out]
    refine (HASK.out _).mono ?_
    rintro e w4 ⟨rfl, P4⟩
    have HP4 := Lib.hid (HP.out.trans P4)
    have L0 := Lib.hid (P4.heap K0.out (fun f => f)); have L1 := Lib.hid (P4.heap K1.out (fun f => f)); have L2 := Lib.hid (P4.heap K2.out (fun f => f))
    clear P4 K0 K1 K2 HP
    obtain ⟨d0, d1, _⟩ := read23 L1.out
    obtain ⟨e0, e1, _⟩ := read23 L2.out
    go_wp2_with fail
    refine (within_two 1 step lo.2 hi.2 _ _ (new_cell _ _ _ _ _ _ rfl rfl) (new_cell _ _ _ _ _ _ rfl rfl)).mono ?_
    rintro e w5 ⟨rfl, P5⟩
    replace P5 := Only.of_alloc P5
    have HP5 := Lib.hid (HP4.out.trans P5)
    have L0 := Lib.hid (P5.heap L0.out (fun f => f)); have L1 := Lib.hid (P5.heap L1.out (fun f => f)); have L2 := Lib.hid (P5.heap L2.out (fun f => f))
    clear P5 d0 d1 e0 e1
    obtain ⟨d0, d1, _⟩ := read23 L1.out
    obtain ⟨e0, e1, _⟩ := read23 L2.out
    rcases hb : withinB 1 step [lo.2, hi.2]
    · have HX := Lib.hid (show 14 = X from by rw [← HX.out, hb]; rfl)
      clear hb
      go_wp2_with fail
      go_ret
      exact ⟨by rw [← HX.out]; rfl, HP5.out⟩
    · have HHB := Lib.hid hb
      clear hb
      go_wp2_with fail
      refine (within_two 0 (1001 * step) lo.1 hi.1 _ _ (new_cell _ _ _ _ _ _ rfl rfl) (new_cell _ _ _ _ _ _ rfl rfl)).mono ?_
      rintro e w6 ⟨rfl, P6⟩
      replace P6 := Only.of_alloc P6
      have HP6 := Lib.hid (HP5.out.trans P6)
      have L0 := Lib.hid (P6.heap L0.out (fun f => f)); have L1 := Lib.hid (P6.heap L1.out (fun f => f)); have L2 := Lib.hid (P6.heap L2.out (fun f => f))
      clear P6 d0 d1 e0 e1
      rcases hc : withinB 0 (1001 * step) [lo.1, hi.1]
      · have HX := Lib.hid (show 14 = X from by rw [← HX.out, HHB.out, hc]; rfl)
        clear hc
        go_wp2_with fail
        go_ret
        exact ⟨by rw [← HX.out]; rfl, HP6.out⟩
      · have HX := Lib.hid (show (if (lessB r lo || !lessB r hi || !decide (D = 1) || decide (S ≤ step)) then (14 : Int) else 0) = X from by rw [← HX.out, HHB.out, hc]; rfl)
        clear hc
        obtain ⟨c0, c1, _⟩ := read23 L0.out
        obtain ⟨d0, d1, _⟩ := read23 L1.out
        obtain ⟨e0, e1, _⟩ := read23 L2.out
        go_wp2_with fail
        refine (less_any r lo _).mono ?_
        rintro e w7 ⟨rfl, P7⟩
        have HP7 := Lib.hid (HP6.out.trans P7)
        have L0 := Lib.hid (P7.heap L0.out (fun f => f)); have L1 := Lib.hid (P7.heap L1.out (fun f => f)); have L2 := Lib.hid (P7.heap L2.out (fun f => f))
        clear P7 c0 c1 d0 d1 e0 e1
        obtain ⟨c0, c1, _⟩ := read23 L0.out
        obtain ⟨d0, d1, _⟩ := read23 L1.out
        obtain ⟨e0, e1, _⟩ := read23 L2.out
        rcases hl : lessB r lo
        rotate_left
        · have HX := Lib.hid (show 14 = X from by rw [← HX.out, hl]; rfl)
          clear hl
          go_wp2_with fail
          go_ret
          exact ⟨by rw [← HX.out]; rfl, HP7.out⟩
        · have HX := Lib.hid (show (if (!lessB r hi || !decide (D = 1) || decide (S ≤ step)) then (14 : Int) else 0) = X from by rw [← HX.out, hl]; rfl)
          clear hl
          go_wp2_with fail
          refine (less_any r hi _).mono ?_
          rintro e w8 ⟨rfl, P8⟩
          have HP8 := Lib.hid (HP7.out.trans P8)
          have L1 := Lib.hid (P8.heap L1.out (fun f => f)); have L2 := Lib.hid (P8.heap L2.out (fun f => f))
          clear P8 c0 c1 d0 d1 e0 e1
          obtain ⟨d0, d1, _⟩ := read23 L1.out
          obtain ⟨e0, e1, _⟩ := read23 L2.out
          rcases hl : lessB r hi
          · have HX := Lib.hid (show 14 = X from by rw [← HX.out, hl]; rfl)
            clear hl
            go_wp2_with fail
            go_ret
            exact ⟨by rw [← HX.out]; rfl, HP8.out⟩
          · have HX := Lib.hid (show (if (!decide (D = 1) || decide (S ≤ step)) then (14 : Int) else 0) = X from by rw [← HX.out, hl]; rfl)
            clear hl
            by_cases h1 : D = 1
            · subst h1
              rcases Int.lt_or_le step S with h2 | h2
              · have HFX := Lib.hid (show 0 = X from by rw [← HX.out]; simp; omega)
                go_wp2_with fail
                go_ret
                exact ⟨by rw [← HFX.out]; rfl, HP8.out⟩
              · have HFX := Lib.hid (show 14 = X from by rw [← HX.out]; simp; omega)
                go_wp2_with fail
                go_ret
                exact ⟨by rw [← HFX.out]; rfl, HP8.out⟩
            · have HFX := Lib.hid (show 14 = X from by rw [← HX.out]; simp [h1])
              have h1b : (D == 1) = false := by simpa using h1
              go_wp2_with fail
              go_ret
              exact ⟨by rw [← HFX.out]; rfl, HP8.out⟩
  · rw [cn1 he]
    obtain ⟨E, hE⟩ : ∃ E, askedE r step = E := ⟨_, rfl⟩
    rw [hE] at he hask ⊢
    have HASK := Lib.hid hask
    clear hask hE
    have heb : (E == 0) = false := by simpa using he
    go_enter Try.func12, Try.ntmps12
    go_wp2_with fail
    rw [← HW.out]
    refine (HASK.out _).mono ?_
    rintro e w4 ⟨rfl, P4⟩
    have HP4 := Lib.hid (HP.out.trans P4)
    clear P4
    go_wp2_with fail
    go_ret
    exact ⟨rfl, HP4.out⟩
end Go.Proofs.Ythnjfekkngpbjaa

/- Round. -/
namespace Go.Proofs.Ythnjfekkngpbjaa
open Go.RowKit Go.Shelf

theorem roundR_bad {r : Fr} {step : Int} (h : askedE r step ≠ 0) : roundR r step = ((0, 0), askedE r step) := by unfold roundR; rw [if_pos h]
def midB (lo hi r : Fr) : Bool := lessB (wrap64 (wrap64 (lo.1 * hi.2) + wrap64 (hi.1 * lo.2)), wrap64 (wrap64 (2 * lo.2) * hi.2)) r
theorem roundR_ok {r : Fr} {step : Int} (h : askedE r step = 0) : roundR r step = if midB (nearOf r step).1 (nearOf r step).2 r then ((nearOf r step).2, 0) else ((nearOf r step).1, 0) := by
  unfold roundR; rw [if_neg (fun k => k h)]; rfl

set_option maxHeartbeats 2000000 in
set_option maxRecDepth 100000 in
theorem Round_any (r : Fr) (step : Int) (w : World) : Calls Try.prog 14 #[(Value.agg #[Value.int IntKind.i64 (Prod.fst (r)), Value.int IntKind.i64 (Prod.snd (r))]), .int .i64 step] w fun e w' => e = .returned (.tuple #[(Value.agg #[Value.int IntKind.i64 (Prod.fst ((roundR r step).1)), Value.int IntKind.i64 (Prod.snd ((roundR r step).1))]), .int .i64 (roundR r step).2]) ∧ Pure w w' := by
  obtain ⟨w3, hw3⟩ : ∃ x, x = (w.alloc (.cells #[.int .i64 r.1, .int .i64 r.2] 23)).alloc (.cells #[.int .i64 0, .int .i64 0] 23) := ⟨_, rfl⟩
  have hP3 : Pure w w3 := by rw [hw3]; exact lay_pure [_, _] w
  have k0 : w3.heap[w.heap.size]? = some (.cells #[.int .i64 r.1, .int .i64 r.2] 23) := by rw [hw3]; exact lay_row [_, _] w 0 _ rfl
  have k1 : w3.heap[w.heap.size + 1]? = some (.cells #[.int .i64 0, .int .i64 0] 23) := by rw [hw3]; exact lay_row [_, _] w 1 _ rfl
  have HW := Lib.hid hw3; have HP := Lib.hid hP3; have K0 := Lib.hid k0; have K1 := Lib.hid k1
  clear hw3 hP3 k0 k1
  have hask := fun W => asked_any r step W
  by_cases he : askedE r step = 0
  · rw [roundR_ok he]
    rw [he] at hask
    have HASK := Lib.hid hask
    clear hask
    obtain ⟨q1, q2, q3, q4, q5, q6⟩ := asked_zero he
    have hnear := fun W => near_any r step W (by omega) q5 q6
    obtain ⟨⟨lo, hi⟩, hR⟩ : ∃ R, nearOf r step = R := ⟨_, rfl⟩
    rw [hR] at hnear ⊢
    dsimp only at hnear ⊢
    have HN := Lib.hid hnear
    have hles := fun W => less_any (wrap64 (wrap64 (lo.1 * hi.2) + wrap64 (hi.1 * lo.2)), wrap64 (wrap64 (2 * lo.2) * hi.2)) r W
    obtain ⟨B, hB⟩ : ∃ B, midB lo hi r = B := ⟨_, rfl⟩
    have hB' : lessB (wrap64 (wrap64 (lo.1 * hi.2) + wrap64 (hi.1 * lo.2)), wrap64 (wrap64 (2 * lo.2) * hi.2)) r = B := hB
    simp only [hB'] at hles
    have HLE := Lib.hid hles
    rw [hB]
    clear hnear hR he q1 q2 q3 q4 q5 q6 hles hB hB'
    cases B
    all_goals
      first | rw [if_neg (by decide)] | rw [if_pos rfl]
      dsimp only
      go_enter Try.func14, Try.ntmps14
      go_wp2_with fail
      rw [← HW.out]
      refine (HASK.out _).mono ?_
      rintro e w4 ⟨rfl, P4⟩
      have HP4 := Lib.hid (HP.out.trans P4)
      have L0 := Lib.hid (P4.heap K0.out (fun f => f)); have L1 := Lib.hid (P4.heap K1.out (fun f => f))
      clear P4 K0 K1 HP
      obtain ⟨d0, d1, _⟩ := read23 L0.out
      go_wp2_with fail
      refine (HN.out _).mono ?_
      rintro e w5 ⟨rfl, P5⟩
      obtain ⟨w7, hw7⟩ : ∃ x, x = (w5.alloc (.cells #[.int .i64 lo.1, .int .i64 lo.2] 23)).alloc (.cells #[.int .i64 hi.1, .int .i64 hi.2] 23) := ⟨_, rfl⟩
      have P7 : Pure w5 w7 := by rw [hw7]; exact lay_pure [_, _] w5
      have n0 : w7.heap[w5.heap.size]? = some (.cells #[.int .i64 lo.1, .int .i64 lo.2] 23) := by rw [hw7]; exact lay_row [_, _] w5 0 _ rfl
      have n1 : w7.heap[w5.heap.size + 1]? = some (.cells #[.int .i64 hi.1, .int .i64 hi.2] 23) := by rw [hw7]; exact lay_row [_, _] w5 1 _ rfl
      have m0 := P7.heap (P5.heap L0.out (fun f => f)) (fun f => f)
      have m1 := P7.heap (P5.heap L1.out (fun f => f)) (fun f => f)
      have HP7 := Lib.hid ((HP4.out.trans P5).trans P7)
      have N0 := Lib.hid n0; have N1 := Lib.hid n1; have M1 := Lib.hid m1; have HW7 := Lib.hid hw7
      obtain ⟨a0, a1, _⟩ := read23 m0
      obtain ⟨x0, x1, _⟩ := read23 n0
      obtain ⟨y0, y1, _⟩ := read23 n1
      rw [hw7] at a0 a1 x0 x1 y0 y1
      clear P5 P7 n0 n1 m0 m1 hw7 d0 d1
      go_wp2_with fail
      refine (HLE.out _).mono ?_
      rw [← HW7.out]
      rintro e w8 ⟨rfl, P8⟩
      obtain ⟨x0, x1, _⟩ := read23 (P8.heap N0.out (fun f => f))
      obtain ⟨y0, y1, _⟩ := read23 (P8.heap N1.out (fun f => f))
      have m1 := P8.heap M1.out (fun f => f)
      obtain ⟨d0, d1, fr⟩ := read23 m1
    · obtain ⟨_, c0, c1, hO⟩ := cell23 m1 lo.1 lo.2
      have HZ := Lib.hid ((HP7.out.trans P8).trans' hO (fun i hi e => by omega))
      clear P8 m1 hO
      go_wp2_with fail
      refine bodyPost_ret (v := .tuple #[(Value.agg #[Value.int IntKind.i64 (Prod.fst (lo)), Value.int IntKind.i64 (Prod.snd (lo))]), .int .i64 0]) ?_ rfl ⟨rfl, HZ.out⟩
      simp [results, Try.f14, go_sem, c0, c1]
    · obtain ⟨_, c0, c1, hO⟩ := cell23 m1 hi.1 hi.2
      have HZ := Lib.hid ((HP7.out.trans P8).trans' hO (fun i hi e => by omega))
      clear P8 m1 hO
      go_wp2_with fail
      refine bodyPost_ret (v := .tuple #[(Value.agg #[Value.int IntKind.i64 (Prod.fst (hi)), Value.int IntKind.i64 (Prod.snd (hi))]), .int .i64 0]) ?_ rfl ⟨rfl, HZ.out⟩
      simp [results, Try.f14, go_sem, c0, c1]
  · rw [roundR_bad he]
    obtain ⟨E, hE⟩ : ∃ E, askedE r step = E := ⟨_, rfl⟩
    rw [hE] at he hask ⊢
    have HASK := Lib.hid hask
    clear hask hE
    have heb : (E == 0) = false := by simpa using he
    go_enter Try.func14, Try.ntmps14
    go_wp2_with fail
    rw [← HW.out]
    refine (HASK.out _).mono ?_
    rintro e w4 ⟨rfl, P4⟩
    have HP4 := Lib.hid (HP.out.trans P4)
    have L1 := Lib.hid (P4.heap K1.out (fun f => f))
    clear P4 K0 K1 HP
    obtain ⟨a0, a1, af⟩ := read23 L1.out
    obtain ⟨_, c0, c1, hO⟩ := cell23 L1.out 0 0
    have HZ := Lib.hid (HP4.out.trans' hO (fun i hi e => by omega))
    clear hO
    go_wp2_with fail
    refine bodyPost_ret (v := .tuple #[(Value.agg #[Value.int IntKind.i64 (Prod.fst (((0, 0) : Fr))), Value.int IntKind.i64 (Prod.snd (((0, 0) : Fr)))]), .int .i64 E]) ?_ rfl ⟨rfl, HZ.out⟩
    simp [results, Try.f14, go_sem, c0, c1]
end Go.Proofs.Ythnjfekkngpbjaa

/- Net; CheckStakes. -/
namespace Go.Proofs.Ythnjfekkngpbjaa
open Go.RowKit Go.Shelf

theorem netR1 {m : Market} {s : List Int} {r : Int} (h : stakedE m s ≠ 0) : netR m s r = ((0, 0), stakedE m s) := by unfold netR; rw [if_pos h]
theorem netR2 {m : Market} {s : List Int} {r : Int} (h : stakedE m s = 0) (k : r < 0 ∨ m.runners ≤ r) : netR m s r = ((0, 0), 2) := by unfold netR; rw [if_neg (fun x => x h), if_pos k]
theorem netR3 {m : Market} {s : List Int} {r : Int} (h : stakedE m s = 0) (k : ¬ (r < 0 ∨ m.runners ≤ r)) : netR m s r = (frac (netOf m s r) 2520, 0) := by unfold netR; rw [if_neg (fun x => x h), if_neg k]

set_option maxHeartbeats 2000000 in
set_option maxRecDepth 100000 in
theorem Net_any (D D' : Nat → Prop) (v u : Value) (m : Market) (s : List Int) (r : Int) (w : World) (hq : Quotes D w v m.quotes) (hs : Ints D' w u s) : Calls Try.prog 26 #[.agg #[.int .i64 m.runners, v], u, .int .i64 r] w fun e w' => e = .returned (.tuple #[(Value.agg #[Value.int IntKind.i64 (Prod.fst ((netR m s r).1)), Value.int IntKind.i64 (Prod.snd ((netR m s r).1))]), .int .i64 (netR m s r).2]) ∧ Pure w w' := by
  obtain ⟨w2, hw2⟩ : ∃ x, x = (w.alloc (.cells #[.int .i64 m.runners, v] 29)).alloc (.cells #[.int .i64 0, .int .i64 0] 23) := ⟨_, rfl⟩
  have hP2 : Pure w w2 := by rw [hw2]; exact lay_pure [_, _] w
  have k0 : w2.heap[w.heap.size]? = some (.cells #[.int .i64 m.runners, v] 29) := by rw [hw2]; exact lay_row [_, _] w 0 _ rfl
  have k1 : w2.heap[w.heap.size + 1]? = some (.cells #[.int .i64 0, .int .i64 0] 23) := by rw [hw2]; exact lay_row [_, _] w 1 _ rfl
  have hst := staked_any D D' v u m s w2 (hq.pure hP2) (hs.pure hP2)
  have hnet := fun b mb W (hW : Pure w W) (hd : DeskAt W b mb v m.runners (deskOf m)) (h1 : checkMarket m = 0) (h2 : s.length = m.quotes.length) => net_any D D' b mb v u m (deskOf m) s r W hd (hq.pure hW) (hs.pure hW) h1 h2
  have hz := fun (h : stakedE m s = 0) => staked_zero h
  have n1 := netR1 (m := m) (s := s) (r := r)
  have n2 := netR2 (m := m) (s := s) (r := r)
  have n3 := netR3 (m := m) (s := s) (r := r)
  obtain ⟨ad, cp, rfl⟩ := hq.form
  obtain ⟨aa, ns, cs, rfl⟩ := hs.form
  clear hs
  obtain ⟨X, hX⟩ : ∃ X, netR m s r = X := ⟨_, rfl⟩
  rw [hX] at n1 n2 n3 ⊢
  obtain ⟨E, hE⟩ : ∃ X, stakedE m s = X := ⟨_, rfl⟩
  unfold StakedTo at hst
  rw [hE] at n1 n2 n3 hz hst
  obtain ⟨R, hR⟩ : ∃ R, m.runners = R := ⟨_, rfl⟩
  rw [hR] at n2 n3 hst hw2 k0 ⊢
  simp only [hR] at hnet
  have HW := Lib.hid hw2; have HP := Lib.hid hP2; have K0 := Lib.hid k0; have K1 := Lib.hid k1; have HST := Lib.hid hst; have HNET := Lib.hid hnet; have HZ := Lib.hid hz
  have N1 := Lib.hid n1; have N2 := Lib.hid n2; have N3 := Lib.hid n3
  clear hw2 hP2 k0 k1 hst hnet hz hX hE hR hq n1 n2 n3
  go_enter Try.func26, Try.ntmps26
  go_wp2_with fail
  rw [← HW.out]
  refine HST.out.mono ?_
  rintro e w3 ⟨P3, ⟨he, rfl⟩ | ⟨rfl, b, mb, rfl, hb, hmb, hdk⟩⟩
  · have heb : (E == 0) = false := by simpa using he
    have hx := N1.out he
    obtain ⟨d0, d1, fr⟩ := read23 (P3.heap K1.out (fun f => f))
    obtain ⟨_, c0, c1, hO⟩ := cell23 (P3.heap K1.out (fun f => f)) 0 0
    have HF := Lib.hid ((HP.out.trans P3).trans' hO (fun i hi e => by omega)); have HX := Lib.hid hx
    clear P3 hO hx
    go_wp2_with fail
    refine bodyPost_ret (v := .tuple #[(Value.agg #[Value.int IntKind.i64 (Prod.fst (((0, 0) : Fr))), Value.int IntKind.i64 (Prod.snd (((0, 0) : Fr)))]), .int .i64 E]) ?_ rfl ⟨by rw [HX.out], HF.out⟩
    simp [results, Try.f26, go_sem, c0, c1]
  · have k0 := P3.heap K0.out (fun f => f)
    have x0 : w3.cell? ⟨w.heap.size, 0, none⟩ = some (.int .i64 R) := cell_of_row _ _ 0 _ _ _ k0
    have HP3 := Lib.hid P3; have HDK := Lib.hid hdk
    have K3 := Lib.hid (P3.heap K1.out (fun f => f))
    clear P3 hb hmb hdk k0
    by_cases hr : r < 0 ∨ R ≤ r
    · have HX := Lib.hid (N2.out rfl hr)
      obtain ⟨d0, d1, fr⟩ := read23 K3.out
      obtain ⟨_, c0, c1, hO⟩ := cell23 K3.out 0 0
      have HF := Lib.hid ((HP.out.trans HP3.out).trans' hO (fun i hi e => by omega))
      clear hO
      rcases Int.lt_or_le r 0 with h0 | h0
      · have hd0 : decide (r < 0) = true := decide_eq_true h0
        go_wp2_with fail
        refine bodyPost_ret (v := .tuple #[(Value.agg #[Value.int IntKind.i64 (Prod.fst (((0, 0) : Fr))), Value.int IntKind.i64 (Prod.snd (((0, 0) : Fr)))]), .int .i64 2]) ?_ rfl ⟨by rw [HX.out], HF.out⟩
        simp [results, Try.f26, go_sem, c0, c1]
      · have hd0 : decide (r < 0) = false := decide_eq_false (by omega)
        have h1 : R ≤ r := by omega
        go_wp2_with fail
        refine bodyPost_ret (v := .tuple #[(Value.agg #[Value.int IntKind.i64 (Prod.fst (((0, 0) : Fr))), Value.int IntKind.i64 (Prod.snd (((0, 0) : Fr)))]), .int .i64 2]) ?_ rfl ⟨by rw [HX.out], HF.out⟩
        simp [results, Try.f26, go_sem, c0, c1]
    · have HX := Lib.hid (N3.out rfl hr)
      have h0 : 0 ≤ r := by omega
      have h1 : r < R := by omega
      obtain ⟨q1, q2⟩ := HZ.out rfl
      have hnet := HNET.out b mb w3 (HP.out.trans HP3.out) HDK.out q1 q2
      have hfr := fun W => frac_any (netOf m s r) 2520 W (by decide)
      obtain ⟨Y, hY⟩ : ∃ Y, frac (netOf m s r) 2520 = Y := ⟨_, rfl⟩
      obtain ⟨N, hN⟩ : ∃ N, netOf m s r = N := ⟨_, rfl⟩
      simp only [hY] at hfr
      rw [hN] at hnet
      simp only [hN] at hfr
      rw [hY] at HX
      have HN := Lib.hid hnet; have HFR := Lib.hid hfr
      clear hr q1 q2 hnet hfr hY hN
      go_wp2_with fail
      refine HN.out.mono ?_
      rintro e w4 ⟨rfl, P4⟩
      have HP4 := Lib.hid (HP3.out.trans P4)
      clear P4
      go_wp2_with fail
      refine (HFR.out _).mono ?_
      rintro e w5 ⟨rfl, P5⟩
      have HP5 := Lib.hid (HP4.out.trans P5)
      obtain ⟨d0, d1, fr⟩ := read23 (HP5.out.heap K1.out (fun f => f))
      obtain ⟨_, c0, c1, hO⟩ := cell23 (HP5.out.heap K1.out (fun f => f)) Y.1 Y.2
      have HF := Lib.hid ((HP.out.trans HP5.out).trans' hO (fun i hi e => by omega))
      clear P5 hO
      go_wp2_with fail
      refine bodyPost_ret (v := .tuple #[(Value.agg #[Value.int IntKind.i64 (Prod.fst (Y)), Value.int IntKind.i64 (Prod.snd (Y))]), .int .i64 0]) ?_ rfl ⟨by rw [HX.out], HF.out⟩
      simp [results, Try.f26, go_sem, c0, c1]

theorem cs1 {m : Market} {s : List Int} (h : stakedE m s ≠ 0) : checkStakes m s = stakedE m s := by unfold checkStakes; rw [if_pos h]
theorem cs2 {m : Market} {s : List Int} (h : stakedE m s = 0) : checkStakes m s = if (List.range m.runners.toNat).all (fun (r : Nat) => decide (0 < netOf m s r)) then 0 else 14 := by unfold checkStakes; rw [if_neg (fun x => x h)]

set_option maxHeartbeats 2000000 in
set_option maxRecDepth 100000 in
theorem CheckStakes_any (D D' : Nat → Prop) (v u : Value) (m : Market) (s : List Int) (w : World) (hq : Quotes D w v m.quotes) (hs : Ints D' w u s) : Calls Try.prog 28 #[.agg #[.int .i64 m.runners, v], u] w fun e w' => e = .returned (.int .i64 (checkStakes m s)) ∧ Pure w w' := by
  have hP1 : Pure w (w.alloc (.cells #[.int .i64 m.runners, v] 29)) := (Only.refl _ w).alloc _
  have k0 := World.alloc_heap_new w (.cells #[.int .i64 m.runners, v] 29)
  have hst := staked_any D D' v u m s _ (hq.pure hP1) (hs.pure hP1)
  have hnet := fun b mb (r : Int) W (hW : Pure w W) (hd : DeskAt W b mb v m.runners (deskOf m)) (h1 : checkMarket m = 0) (h2 : s.length = m.quotes.length) => net_any D D' b mb v u m (deskOf m) s r W hd (hq.pure hW) (hs.pure hW) h1 h2
  have hz := fun (h : stakedE m s = 0) => staked_zero h
  have hmz := fun (h : checkMarket m = 0) => market_zero h
  have n1 := cs1 (m := m) (s := s)
  have n2 := cs2 (m := m) (s := s)
  obtain ⟨ad, cp, rfl⟩ := hq.form
  obtain ⟨aa, ns, cs, rfl⟩ := hs.form
  clear hs
  obtain ⟨X, hX⟩ : ∃ X, checkStakes m s = X := ⟨_, rfl⟩
  rw [hX] at n1 n2 ⊢
  obtain ⟨E, hE⟩ : ∃ X, stakedE m s = X := ⟨_, rfl⟩
  unfold StakedTo at hst
  rw [hE] at n1 n2 hz hst
  have HP := Lib.hid hP1; have K0 := Lib.hid k0; have HST := Lib.hid hst; have HNET := Lib.hid hnet; have HZ := Lib.hid hz; have HMZ := Lib.hid hmz
  have N1 := Lib.hid n1; have N2 := Lib.hid n2
  clear hP1 k0 hst hnet hz hX hE hq hmz n1 n2
  go_enter Try.func28, Try.ntmps28
  go_wp2_with fail
  go_step3
  go_wp2_with fail
  refine HST.out.mono ?_
  rintro e w3 ⟨P3, ⟨he, rfl⟩ | ⟨rfl, b, mb, rfl, hb, hmb, hdk⟩⟩
  · have heb : (E == 0) = false := by simpa using he
    have HX := Lib.hid (N1.out he); have HP3 := Lib.hid P3
    clear P3
    go_wp2_with fail
    rw [Exit.noGoto_ret]
    go_ret
    exact ⟨by rw [HX.out]; rfl, HP.out.trans HP3.out⟩
  · obtain ⟨q1, q2⟩ := HZ.out rfl
    obtain ⟨r1, r5, _, _⟩ := HMZ.out q1
    have hX2 := N2.out rfl
    obtain ⟨R, hR⟩ : ∃ R : Nat, m.runners = R := ⟨m.runners.toNat, by omega⟩
    have x0 : w3.cell? ⟨w.heap.size, 0, none⟩ = some (.int .i64 m.runners) := cell_of_row _ _ 0 _ _ _ (P3.heap K0.out (fun f => f))
    rw [hR] at x0 hX2 r1 r5
    rw [Int.toNat_natCast] at hX2
    have HP3 := Lib.hid (HP.out.trans P3); have HDK := Lib.hid hdk; have HX2 := Lib.hid hX2; have HQ := Lib.hid (And.intro q1 q2)
    clear P3 hb hmb hdk hX2 q1 q2
    go_wp2_with fail
    go_step3
    go_wp2_with fail
    go_loopw [19] (fun i wr => ∃ k : Nat, k ≤ R ∧ i = .int .i64 k ∧ Hid (∀ j : Nat, j < k → 0 < netOf m s j) ∧ Hid (Pure w3 wr)) (fun i _ => R - (intOf i).toNat)
    case atStart => exact ⟨0, Nat.zero_le _, rfl, Lib.hid (fun j hj => by omega), Lib.hid (Only.refl _ _)⟩
    case round =>
      obtain ⟨k, hk, rfl, hall, hP⟩ := hrel
      by_cases hlt : k < R
      · have hnet := HNET.out b mb (k : Int) wr (HP3.out.trans hP.out) (HDK.out.pure hP.out) HQ.out.1 HQ.out.2
        obtain ⟨N, hN⟩ : ∃ N, netOf m s (k : Int) = N := ⟨_, rfl⟩
        rw [hN] at hnet
        have HN := Lib.hid hnet; have HNN := Lib.hid hN
        clear hnet hN
        go_wp2_with fail
        refine HN.out.mono ?_
        rintro e w4 ⟨rfl, P4⟩
        have HP4 := Lib.hid (hP.out.trans P4)
        clear P4
        rcases Int.lt_or_le 0 N with h0 | h0
        · have hd0 : decide (0 < N) = true := decide_eq_true h0
          have hd1 : decide (N > 0) = true := decide_eq_true h0
          go_wp2_with fail
          go_roundw
          case rel => exact ⟨k + 1, by omega, by go_num, Lib.hid (fun j hj => by
            rcases (by omega : j < k ∨ j = k) with h | rfl
            · exact hall.out j h
            · rw [HNN.out]; exact h0), HP4⟩
          case measure => simp [intOf]; omega
        · have HF := Lib.hid (show X = 14 from by
            rw [HX2.out, if_neg]
            simp only [List.all_eq_true, List.mem_range, decide_eq_true_eq]
            intro h
            have h2 := h k hlt
            rw [HNN.out] at h2; omega)
          go_wp2_with fail
          rw [Exit.noGoto_ret]
          go_ret
          exact ⟨by rw [HF.out]; rfl, HP3.out.trans HP4.out⟩
      · obtain rfl : R = k := by omega
        have HF := Lib.hid (show X = 0 from by
          rw [HX2.out, if_pos]
          simp only [List.all_eq_true, List.mem_range, decide_eq_true_eq]
          exact fun j hj => hall.out j hj)
        go_wp2_with fail
        rw [Exit.noGoto_ret]
        go_ret
        exact ⟨by rw [HF.out]; rfl, HP3.out.trans hP.out⟩
end Go.Proofs.Ythnjfekkngpbjaa

/- CheckChances. -/
namespace Go.Proofs.Ythnjfekkngpbjaa
open Go.RowKit Go.Shelf

theorem cc1 {m : Market} {c : List Int} (h : checkMarket m ≠ 0) : checkChances m c = checkMarket m := by unfold checkChances; rw [if_pos h]
theorem cc2 {m : Market} {c : List Int} (h : checkMarket m = 0) (k : (c.length : Int) ≠ m.runners) : checkChances m c = 15 := by unfold checkChances; rw [if_neg (fun x => x h), if_pos k]
theorem cc3 {m : Market} {c : List Int} (h : checkMarket m = 0) (k : (c.length : Int) = m.runners) (j : withinB 0 1099511627776 c = false) : checkChances m c = 3 := by unfold checkChances; rw [if_neg (fun x => x h), if_neg (fun x => x k), if_pos (by rw [j]; rfl)]
theorem cc4 {m : Market} {c : List Int} (h : checkMarket m = 0) (k : (c.length : Int) = m.runners) (j : withinB 0 1099511627776 c = true) (i : withinB 1 1099511627776 [sumW c] = false) : checkChances m c = 3 := by unfold checkChances; rw [if_neg (fun x => x h), if_neg (fun x => x k), if_pos (by rw [j, i]; rfl)]
theorem cc5 {m : Market} {c : List Int} (h : checkMarket m = 0) (k : (c.length : Int) = m.runners) (j : withinB 0 1099511627776 c = true) (i : withinB 1 1099511627776 [sumW c] = true) : checkChances m c = if m.quotes.any (unfair m c) then 20 else 0 := by unfold checkChances; rw [if_neg (fun x => x h), if_neg (fun x => x k), if_neg (by rw [j, i]; decide)]
theorem any_drop {α : Type} (p : α → Bool) (l : List α) (k : Nat) (h : k < l.length) (d : α) : (l.drop k).any p = (p (l[k]?.getD d) || (l.drop (k + 1)).any p) := by
  rw [List.drop_eq_getElem_cons h, List.any_cons, List.getElem?_eq_getElem h]; rfl

set_option maxHeartbeats 2000000 in
set_option maxRecDepth 100000 in
theorem CheckChances_any (D D' : Nat → Prop) (v u : Value) (m : Market) (c : List Int) (w : World) (hq : Quotes D w v m.quotes) (hs : Ints D' w u c) : Calls Try.prog 35 #[.agg #[.int .i64 m.runners, v], u] w fun e w' => e = .returned (.int .i64 (checkChances m c)) ∧ Pure w w' := by
  have hP1 : Pure w (w.alloc (.cells #[.int .i64 m.runners, v] 29)) := (Only.refl _ w).alloc _
  have k0 := World.alloc_heap_new w (.cells #[.int .i64 m.runners, v] 29)
  have hcm := checkMarket_any D v m _ (hq.pure hP1)
  have hwi := fun W (hW : Pure w W) => within_any D' 0 1099511627776 u c W (hs.pure hW)
  have hsu := fun W (hW : Pure w W) => sum_any D' u c W (hs.pure hW)
  have hmz := fun (h : checkMarket m = 0) => market_zero h
  have n1 := cc1 (m := m) (c := c)
  have n2 := cc2 (m := m) (c := c)
  have n3 := cc3 (m := m) (c := c)
  have n4 := cc4 (m := m) (c := c)
  have n5 := cc5 (m := m) (c := c)
  obtain ⟨ad, n, cp, rfl, hlen, hlc, hmax, hc⟩ := hq
  obtain ⟨sa, n', cs, rfl, hlen', hlc', hmax', hc'⟩ := hs
  obtain ⟨X, hX⟩ : ∃ X, checkChances m c = X := ⟨_, rfl⟩
  rw [hX] at n1 n2 n3 n4 n5 ⊢
  obtain ⟨E, hE⟩ : ∃ E, checkMarket m = E := ⟨_, rfl⟩
  rw [hE] at n1 n2 n3 n4 n5 hcm hmz
  rw [← hlen'] at n2 n3 n4 n5
  obtain ⟨B1, hB1⟩ : ∃ E, withinB 0 1099511627776 c = E := ⟨_, rfl⟩
  obtain ⟨S, hS⟩ : ∃ E, sumW c = E := ⟨_, rfl⟩
  rw [hS] at n4 n5
  obtain ⟨B2, hB2⟩ : ∃ E, withinB 1 1099511627776 [S] = E := ⟨_, rfl⟩
  rw [hB1] at n3 n4 n5
  rw [hB2] at n4 n5
  simp only [hB1] at hwi
  simp only [hS] at hsu
  have hw1 := fun W b h => within_one 1 1099511627776 S b W h
  rw [hB2] at hw1
  have HP := Lib.hid hP1; have K0 := Lib.hid k0; have HCM := Lib.hid hcm; have HWI := Lib.hid hwi; have HSU := Lib.hid hsu; have HW1 := Lib.hid hw1; have HMZ := Lib.hid hmz
  have HC := Lib.hid hc; have HC' := Lib.hid hc'; have HL := Lib.hid hlen; have HL' := Lib.hid hlen'; have HSS := Lib.hid hS
  clear hP1 k0 hcm hwi hsu hw1 hX hE hB1 hB2 hS hc hc' hlen hlen' hmz
  by_cases he : E = 0
  · obtain rfl := he
    obtain ⟨r1, r5, l12, hqs⟩ := HMZ.out rfl
    rw [← HL.out] at l12 hqs
    obtain ⟨R, hR⟩ : ∃ R : Nat, m.runners = R := ⟨m.runners.toNat, by omega⟩
    rw [hR] at r1 r5 hqs n2 n3 n4 n5 K0 HP HCM ⊢
    have HQS := Lib.hid hqs
    clear hR hqs n1
    by_cases hl : n' = R
    · obtain rfl := hl
      cases B1
      · obtain rfl := n3 rfl rfl rfl
        clear n2 n3 n4 n5
        go_enter Try.func35, Try.ntmps35
        go_wp2_with fail
        refine HCM.out.mono ?_
        rintro e w2 ⟨rfl, P2⟩
        have HP2 := Lib.hid (HP.out.trans P2)
        have x0 : w2.cell? ⟨w.heap.size, 0, none⟩ = some (.int .i64 (n' : Int)) := cell_of_row _ _ 0 _ _ _ (P2.heap K0.out (fun f => f))
        clear P2
        go_wp2_with fail
        refine (HWI.out _ HP2.out).mono ?_
        rintro e w3 ⟨rfl, P3⟩
        have HP3 := Lib.hid (HP2.out.trans P3)
        clear P3 x0
        go_wp2_with fail
        go_ret
        exact ⟨rfl, HP3.out⟩
      · cases B2
        all_goals
          first | obtain rfl := n4 rfl rfl rfl rfl | have HX := Lib.hid (n5 rfl rfl rfl rfl)
          clear n2 n3 n4 n5
          go_enter Try.func35, Try.ntmps35
          go_wp2_with fail
          refine HCM.out.mono ?_
          rintro e w2 ⟨rfl, P2⟩
          have HP2 := Lib.hid (HP.out.trans P2)
          have K2 := Lib.hid (P2.heap K0.out (fun f => f))
          have x0 : w2.cell? ⟨w.heap.size, 0, none⟩ = some (.int .i64 (n' : Int)) := cell_of_row _ _ 0 _ _ _ K2.out
          clear P2
          go_wp2_with fail
          refine (HWI.out _ HP2.out).mono ?_
          rintro e w3 ⟨rfl, P3⟩
          have HP3 := Lib.hid (HP2.out.trans P3)
          have K3 := Lib.hid (P3.heap K2.out (fun f => f))
          clear P3 x0
          go_wp2_with fail
          refine (HSU.out _ HP3.out).mono ?_
          rintro e w4 ⟨rfl, P4⟩
          have HP4 := Lib.hid (HP3.out.trans P4)
          have K4 := Lib.hid (P4.heap K3.out (fun f => f))
          clear P4
          go_wp2_with fail
          refine (HW1.out _ _ (new_cell _ _ _ _ _ _ rfl rfl)).mono ?_
          rintro e w5 ⟨rfl, P5⟩
          replace P5 := Only.of_alloc P5
          have HP5 := Lib.hid (HP4.out.trans P5)
          have K5 := Lib.hid (P5.heap K4.out (fun f => f))
          clear P5
          go_wp2_with fail
        · go_ret
          exact ⟨rfl, HP5.out⟩
        · refine (HSU.out _ HP5.out).mono ?_
          rintro e w6 ⟨rfl, P6⟩
          have HP6 := Lib.hid (HP5.out.trans P6)
          have x1 : w6.cell? ⟨w.heap.size, 1, none⟩ = some (.slice ad n cp) := cell_of_row _ _ 1 _ _ _ (P6.heap K5.out (fun f => f))
          clear P6
          go_wp2_with fail
          go_loopw [38] (fun i wr => ∃ k : Nat, k ≤ n ∧ i = .int .i64 k ∧ Hid (m.quotes.any (unfair m c) = (m.quotes.drop k).any (unfair m c)) ∧ Hid (Pure w6 wr)) (fun i _ => n - (intOf i).toNat)
          case atStart => exact ⟨0, Nat.zero_le _, rfl, Lib.hid (by simp), Lib.hid (Only.refl _ _)⟩
          case round =>
            clear x1
            obtain ⟨k, hk, rfl, hany, hP⟩ := hrel
            by_cases hlt : k < n
            · obtain ⟨bq, oq, rfl, _, x0, x1, x2, x3⟩ := HC.out k hlt
              obtain ⟨p1, p2, p3, p4, p5, p6⟩ := HQS.out k hlt
              have hPw := HP6.out.trans hP.out
              have hdr := any_drop (unfair m c) m.quotes k (by rw [← HL.out]; exact hlt) ⟨0, 0, 0, false⟩
              have hqa : (m.quotes[k]?.getD ⟨0, 0, 0, false⟩) = qAt m.quotes k := rfl
              rw [hqa] at x0 x1 x2 x3 hdr
              obtain ⟨q, hq⟩ : ∃ q, qAt m.quotes k = q := ⟨_, rfl⟩
              rw [hq] at x0 x1 x2 x3 hdr p1 p2
              obtain ⟨qr, qn, qd, ql⟩ := q
              dsimp only at x0 x1 x2 x3 p1 p2
              obtain ⟨i, rfl⟩ : ∃ i : Nat, qr = i := ⟨qr.toNat, by omega⟩
              have hi : i < n' := by omega
              obtain ⟨bs, os, rfl, _, y0⟩ := HC'.out i hi
              have hsa : c[i]?.getD 0 = sAt c i := rfl
              rw [hsa] at y0
              obtain ⟨T1, hT1⟩ : ∃ x, wrap64 (qd + qn) = x := ⟨_, rfl⟩
              obtain ⟨ci, hci⟩ : ∃ x, sAt c i = x := ⟨_, rfl⟩
              rw [hci] at y0
              obtain ⟨T2, hT2⟩ : ∃ x, wrap64 (ci * T1) = x := ⟨_, rfl⟩
              obtain ⟨T3, hT3⟩ : ∃ x, wrap64 (S * qd) = x := ⟨_, rfl⟩
              obtain ⟨V, hV⟩ : ∃ x, wrap64 (T2 - T3) = x := ⟨_, rfl⟩
              have hun : unfair m c ⟨(i : Int), qn, qd, ql⟩ = ((decide (0 < V) && !ql) || (decide (V < 0) && ql)) := by
                unfold unfair overOf
                dsimp only
                rw [Int.toNat_natCast, hci, hT1, hT2, HSS.out, hT3, hV]
              rw [hun] at hdr
              obtain ⟨w7, hw7⟩ : ∃ x, x = wr.alloc (.cells #[.int .i64 (i : Int), .int .i64 qn, .int .i64 qd, .bool ql] 83) := ⟨_, rfl⟩
              have P7 : Pure wr w7 := by rw [hw7]; exact (Only.refl _ wr).alloc _
              have r7 : w7.heap[wr.heap.size]? = some (.cells #[.int .i64 (i : Int), .int .i64 qn, .int .i64 qd, .bool ql] 83) := by rw [hw7]; exact World.alloc_heap_new wr _
              have k0 := hPw.cell x0 (fun f => f)
              have k1 := hPw.cell x1 (fun f => f)
              have k2 := hPw.cell x2 (fun f => f)
              have k3 := hPw.cell x3 (fun f => f)
              have z1 := (hPw.trans P7).cell y0 (fun f => f)
              have m0 : w7.cell? ⟨wr.heap.size, 0, none⟩ = some (.int .i64 (i : Int)) := cell_of_row _ _ 0 _ _ _ r7
              have m1 : w7.cell? ⟨wr.heap.size, 1, none⟩ = some (.int .i64 qn) := cell_of_row _ _ 1 _ _ _ r7
              have m2 : w7.cell? ⟨wr.heap.size, 2, none⟩ = some (.int .i64 qd) := cell_of_row _ _ 2 _ _ _ r7
              have m3 : w7.cell? ⟨wr.heap.size, 3, none⟩ = some (.bool ql) := cell_of_row _ _ 3 _ _ _ r7
              have HW7 := Lib.hid hw7; have HP7 := Lib.hid (hP.out.trans P7); have HDR := Lib.hid hdr
              clear hw7 P7 r7 hdr x0 x1 x2 x3 y0 hqa hsa hq hci hun p1 p2 p3 p4 p5 p6 hPw
              go_upto_region 12 with fail
              rw [← HW7.out]
              clear HW7
              go_wp2_with fail
              go_quiet (fail)
              rcases Int.lt_trichotomy V 0 with hv | hv | hv
              · have e1 : decide (0 < V) = false := decide_eq_false (by omega)
                have e2 : decide (V < 0) = true := decide_eq_true hv
                have e3 : decide (V > 0) = false := decide_eq_false (by omega)
                cases ql
                · have HA := Lib.hid (show m.quotes.any (unfair m c) = (m.quotes.drop (k + 1)).any (unfair m c) from by rw [hany.out, HDR.out, e1, e2]; rfl)
                  go_wp2_with fail
                  go_roundw
                  case rel => exact ⟨k + 1, by omega, by go_num, HA, Lib.hid (HP7.out.drewN _)⟩
                  case measure => simp [intOf]; omega
                · have HA := Lib.hid (show X = 20 from by rw [HX.out, hany.out, HDR.out, e1, e2]; rfl)
                  go_wp2_with fail
                  go_ret
                  exact ⟨by rw [HA.out]; rfl, HP6.out.trans (HP7.out.drewN _)⟩
              · subst hv
                have HA := Lib.hid (show m.quotes.any (unfair m c) = (m.quotes.drop (k + 1)).any (unfair m c) from by rw [hany.out, HDR.out]; simp)
                go_wp2_with fail
                go_roundw
                case rel => exact ⟨k + 1, by omega, by go_num, HA, Lib.hid (HP7.out.drewN _)⟩
                case measure => simp [intOf]; omega
              · have e1 : decide (0 < V) = true := decide_eq_true hv
                have e2 : decide (V < 0) = false := decide_eq_false (by omega)
                have e3 : decide (V > 0) = true := decide_eq_true hv
                cases ql
                · have HA := Lib.hid (show X = 20 from by rw [HX.out, hany.out, HDR.out, e1, e2]; rfl)
                  go_wp2_with fail
                  go_ret
                  exact ⟨by rw [HA.out]; rfl, HP6.out.trans (HP7.out.drewN _)⟩
                · have HA := Lib.hid (show m.quotes.any (unfair m c) = (m.quotes.drop (k + 1)).any (unfair m c) from by rw [hany.out, HDR.out, e1, e2]; rfl)
                  go_wp2_with fail
                  go_roundw
                  case rel => exact ⟨k + 1, by omega, by go_num, HA, Lib.hid (HP7.out.drewN _)⟩
                  case measure => simp [intOf]; omega
            · obtain rfl : n = k := by omega
              have HA := Lib.hid (show X = 0 from by rw [HX.out, hany.out, List.drop_eq_nil_of_le (by rw [← HL.out]; exact Nat.le_refl _)]; rfl)
              go_wp2_with fail
              go_ret
              exact ⟨by rw [HA.out]; rfl, HP6.out.trans hP.out⟩
    · obtain rfl := n2 rfl (by omega)
      have hlb : ((n' : Int) == (R : Int)) = false := by simp; omega
      clear n2 n3 n4 n5
      go_enter Try.func35, Try.ntmps35
      go_wp2_with fail
      refine HCM.out.mono ?_
      rintro e w2 ⟨rfl, P2⟩
      have HP2 := Lib.hid (HP.out.trans P2)
      have x0 : w2.cell? ⟨w.heap.size, 0, none⟩ = some (.int .i64 (R : Int)) := cell_of_row _ _ 0 _ _ _ (P2.heap K0.out (fun f => f))
      clear P2
      go_wp2_with fail
      go_ret
      exact ⟨rfl, HP2.out⟩
  · obtain rfl := n1 he
    have heb : (X == 0) = false := by simpa using he
    clear n1 n2 n3 n4 n5
    go_enter Try.func35, Try.ntmps35
    go_wp2_with fail
    refine HCM.out.mono ?_
    rintro e w2 ⟨rfl, P2⟩
    have HP2 := Lib.hid (HP.out.trans P2)
    clear P2
    go_wp2_with fail
    go_ret
    exact ⟨rfl, HP2.out⟩
end Go.Proofs.Ythnjfekkngpbjaa

/- Two heaps of the same numbers and strings are told as the same. -/
namespace Go.Proofs.Ythnjfekkngpbjaa
open Go.RowKit

/-- Both boxes, as 'same' lays them. -/
def Boxes (w : World) (v1 v2 v3 v4 : Value) (wr : World) : Prop :=
  Only (fun _ => False) w wr ∧ wr.cell? ⟨w.heap.size, 0, none⟩ = some v1 ∧ wr.cell? ⟨w.heap.size, 1, none⟩ = some v2 ∧ wr.cell? ⟨w.heap.size + 1, 0, none⟩ = some v3 ∧ wr.cell? ⟨w.heap.size + 1, 1, none⟩ = some v4
theorem Boxes.drewN {w wr : World} {v1 v2 v3 v4 : Value} (h : Boxes w v1 v2 v3 v4 wr) (n : Nat) : Boxes w v1 v2 v3 v4 (wr.drewN n) := ⟨h.1.drewN n, h.2⟩

set_option maxHeartbeats 1000000 in
set_option maxRecDepth 100000 in
theorem same_any (D : Nat → Prop) (vn vs un us : Value) (ns : List Int) (ss : List ByteArray) (w : World) (h1 : SliceAt D w vn 1 (ns.map (.int .i64))) (h2 : SliceAt D w vs 1 (ss.map .string))
    (h3 : SliceAt D w un 1 (ns.map (.int .i64))) (h4 : SliceAt D w us 1 (ss.map .string)) :
    Calls Try.prog 39 #[.agg #[vn, vs], .agg #[un, us]] w fun e w' => e = .returned (.bool true) ∧ Only (fun _ => False) w w' := by
  obtain ⟨a1, n1, p1, rfl, l1, _, m1, c1⟩ := h1.ints
  obtain ⟨a2, n2, p2, rfl, l2, _, m2, c2⟩ := h2.texts
  obtain ⟨a3, n3, p3, rfl, l3, _, m3, c3⟩ := h3.ints
  obtain ⟨a4, n4, p4, rfl, l4, _, m4, c4⟩ := h4.texts
  obtain rfl : n1 = n3 := by omega
  obtain rfl : n2 = n4 := by omega
  have C1 := Lib.hid c1; have C2 := Lib.hid c2; have C3 := Lib.hid c3; have C4 := Lib.hid c4
  clear h1 h2 h3 h4 c1 c2 c3 c4 l1 l2 l3 l4
  go_enter Try.func39, Try.ntmps39
  go_wp2
  go_loopw [5] (fun i wr => ∃ k : Nat, k ≤ n1 ∧ i = .int .i64 k ∧ Boxes w (.slice a1 n1 p1) (.slice a2 n2 p2) (.slice a3 n1 p3) (.slice a4 n2 p4) wr) (fun i _ => n1 - (intOf i).toNat)
  case atStart =>
    refine ⟨0, Nat.zero_le _, rfl, ((Only.refl _ w).alloc _).alloc _, ?_, ?_, ?_, ?_⟩
    · rw [World.cell?_alloc_past _ _ _ (by simp)]; simp
    · rw [World.cell?_alloc_past _ _ _ (by simp)]; simp
    · simp
    · simp
  case round =>
    obtain ⟨k, hk, rfl, hB⟩ := hrel
    obtain ⟨hO, b1, b2, b3, b4⟩ := hB
    by_cases hlt : k < n1
    · obtain ⟨g1, o1, rfl, _, x1⟩ := C1.out k hlt
      obtain ⟨g3, o3, rfl, _, x3⟩ := C3.out k hlt
      have y1 := hO.cell x1 (fun h => h)
      have y3 := hO.cell x3 (fun h => h)
      clear x1 x3
      go_wp2
      go_quiet (fail)
      go_wp2
      go_roundw
      case rel => exact ⟨k + 1, by omega, by go_num, Boxes.drewN ⟨hO, b1, b2, b3, b4⟩ _⟩
      case measure => simp [intOf]; omega
    · go_wp2
      go_loopw [6] (fun i wr => ∃ k : Nat, k ≤ n2 ∧ i = .int .i64 k ∧ Boxes w (.slice a1 n1 p1) (.slice a2 n2 p2) (.slice a3 n1 p3) (.slice a4 n2 p4) wr) (fun i _ => n2 - (intOf i).toNat)
      case atStart => exact ⟨0, Nat.zero_le _, rfl, hO, b1, b2, b3, b4⟩
      case round =>
        obtain ⟨k2, hk2, rfl, hB2⟩ := hrel
        obtain ⟨hO2, d1, d2, d3, d4⟩ := hB2
        by_cases hlt2 : k2 < n2
        · obtain ⟨g2, o2, rfl, _, x2⟩ := C2.out k2 hlt2
          obtain ⟨g4, o4, rfl, _, x4⟩ := C4.out k2 hlt2
          have y2 := hO2.cell x2 (fun h => h)
          have y4 := hO2.cell x4 (fun h => h)
          clear x2 x4
          go_wp2
          go_quiet (fail)
          go_wp2
          go_roundw
          case rel => exact ⟨k2 + 1, by omega, by go_num, Boxes.drewN ⟨hO2, d1, d2, d3, d4⟩ _⟩
          case measure => simp [intOf]; omega
        · go_wp2
          go_ret
          exact ⟨rfl, hO2⟩
end Go.Proofs.Ythnjfekkngpbjaa

/- 'again': two calls put the same. -/
namespace Go.Proofs.Ythnjfekkngpbjaa
open Go.RowKit

/-- A function is entered as it is called. -/
def Enters (f : Nat) : Prop := ∀ args w, (callFunc f args).run Try.prog w = .ok (.enter f args) w

/-- What a call that is asked again promises: in whatever world in which all that lay in W lies as it lay, the same numbers and texts; what it hands back to write over its results writes over memory of its own making. -/
def Asks (K bx : Nat) (W : World) (N : List Int) (S : List ByteArray) : Prop :=
  ∀ (w : World) (hb : Nat), Below W.heap.size W w → W.heap.size ≤ hb → HeapIs hb w [] [] → (∀ k, InHeap hb w k → W.heap.size ≤ k) →
    Calls Try.prog K #[.pointer (some ⟨hb, 0, none⟩), .pointer (some ⟨bx, 0, none⟩)] w fun e w' => ∃ (g : Nat) (lb : Array Value) (F : Nat → Prop), e = .returned (.func (.func g) #[] lb) ∧ Enters g ∧ HeapIs hb w' N S ∧ Step hb w w' ∧
      (∀ k, F k → w.heap.size ≤ k ∧ ¬ InHeap hb w' k) ∧ Calls Try.prog g lb w' fun e2 w2 => e2 = .returned (.tuple #[]) ∧ Only F w' w2

theorem nil_heap {w : World} {b : Nat} (h : w.heap[b]? = some (.cells #[.slice none 0 0, .slice none 0 0] 36 (0, 0))) : HeapIs b w [] [] ∧ ∀ k, InHeap b w k → k = b := by
  refine ⟨⟨_, _, h, World.ownsRow_nil _ _ _ _, World.ownsRow_nil _ _ _ _⟩, fun k hk => ?_⟩
  rcases hk with rfl | ⟨vn, vs, hh, hk⟩
  · rfl
  · rw [h] at hh
    simp only [Option.some.injEq, Obj.cells.injEq, Array.mk.injEq, List.cons.injEq, and_true] at hh
    obtain ⟨rfl, rfl⟩ := hh
    rcases hk with hk | hk <;> simp [Value.ownBlock] at hk

theorem in_stay {hb : Nat} {w w' : World} {S : Nat → Prop} (h : Only S w w') {o : Obj} (hh : w.heap[hb]? = some o) (hs : ¬ S hb) {k : Nat} (hk : InHeap hb w' k) : InHeap hb w k := by
  rcases hk with rfl | ⟨vn, vs, hx, hk⟩
  · exact .inl rfl
  · have := h.heap hh hs
    rw [this] at hx
    exact .inr ⟨vn, vs, by rw [hh]; exact hx, hk⟩

set_option maxHeartbeats 1000000 in
set_option maxRecDepth 100000 in
theorem again_any (K bx : Nat) (W w0 : World) (N : List Int) (S : List ByteArray) (hE : Enters K) (hA : Asks K bx W N S) (hb : Below W.heap.size W w0) :
    Calls Try.prog 5 #[.func (.func K) #[] #[.pointer (some ⟨bx, 0, none⟩)]] w0 fun e w' => e = .returned (.bool true) ∧ Below W.heap.size W w' := by
  have hs := hb.size
  have ha : ((w0.alloc (.cells #[.slice none 0 0, .slice none 0 0] 36)).alloc (.cells #[.slice none 0 0, .slice none 0 0] 36)).heap[w0.heap.size]? = some (.cells #[.slice none 0 0, .slice none 0 0] 36 (0, 0)) :=
    (Below.heap_alloc _ _ _ (by simp)).trans (World.alloc_heap_new w0 _)
  have hb' : ((w0.alloc (.cells #[.slice none 0 0, .slice none 0 0] 36)).alloc (.cells #[.slice none 0 0, .slice none 0 0] 36)).heap[w0.heap.size + 1]? = some (.cells #[.slice none 0 0, .slice none 0 0] 36 (0, 0)) := by
    have := World.alloc_heap_new (w0.alloc (.cells #[.slice none 0 0, .slice none 0 0] 36)) (.cells #[.slice none 0 0, .slice none 0 0] 36)
    rwa [World.size_alloc] at this
  have hB1 : Below W.heap.size W ((w0.alloc (.cells #[.slice none 0 0, .slice none 0 0] 36)).alloc (.cells #[.slice none 0 0, .slice none 0 0] 36)) := (hb.alloc hs _).alloc (by simp; omega) _
  have hz : ((w0.alloc (.cells #[.slice none 0 0, .slice none 0 0] 36)).alloc (.cells #[.slice none 0 0, .slice none 0 0] 36)).heap.size = w0.heap.size + 2 := by simp
  have hE' := hE
  unfold Enters at hE'
  have HA := Lib.hid hA; have Ha := Lib.hid ha; have Hb := Lib.hid hb'; have HB1 := Lib.hid hB1; have HZ := Lib.hid hz; have HS := Lib.hid hs
  clear hA ha hb' hB1 hz hb hs hE
  go_enter Try.func5, Try.ntmps5
  go_wp2_with fail
  generalize ((w0.alloc (.cells #[.slice none 0 0, .slice none 0 0] 36)).alloc (.cells #[.slice none 0 0, .slice none 0 0] 36)) = w1 at Ha Hb HB1 HZ ⊢
  obtain ⟨hna, hia⟩ := nil_heap Ha.out
  refine (HA.out w1 w0.heap.size HB1.out HS.out hna (fun k hk => by rw [hia k hk]; exact HS.out)).mono ?_
  rintro e w2 ⟨g, lb, F, rfl, hEg, hH2, hSt, hF, hG⟩
  unfold Enters at hEg
  have HH2 := Lib.hid hH2; have HSt := Lib.hid hSt; have HF := Lib.hid hF
  have HB2 := Lib.hid (show Below W.heap.size W w2 from HB1.out.trans (hSt.only.toBelow (Nat.le_trans HS.out (by rw [HZ.out]; omega)) (fun k hk hi => by have := hia k hi; have := HS.out; omega)))
  have HIA := Lib.hid hia
  clear hna hH2 hSt hF hia
  go_wp2_with fail
  refine hG.mono ?_
  rintro e w3 ⟨rfl, hO3⟩
  have h1 := HZ.out
  have hH3 := HH2.out.keep hO3 (fun k hk hf => (HF.out k hf).2 hk)
  have hB3 : Below W.heap.size W w3 := HB2.out.trans (hO3.toBelow HB2.out.size (fun k hk hf => by have := (HF.out k hf).1; have := HS.out; omega))
  have hb2 := HSt.out.only.heap Hb.out (fun hi => by have := HIA.out _ hi; omega)
  have hb3 := hO3.heap hb2 (fun hf => by have := (HF.out _ hf).1; omega)
  obtain ⟨hnb, hib⟩ := nil_heap hb3
  have hAI : ∀ k, InHeap w0.heap.size w3 k → k = w0.heap.size ∨ w0.heap.size + 2 ≤ k := fun k hk => by
    obtain ⟨vn, vs, hh, _, _⟩ := HH2.out
    have h3 := in_stay hO3 hh (fun hf => (HF.out _ hf).2 (.inl rfl)) hk
    rcases HSt.out.rows k h3 with h | h
    · exact .inl (HIA.out k h)
    · right; omega
  have HH3 := Lib.hid hH3; have HB3 := Lib.hid hB3; have HAI := Lib.hid hAI; have HIB := Lib.hid hib; have HNB := Lib.hid hnb
  clear hO3 hH3 hB3 hb2 hb3 hnb hib hAI h1 hEg hG
  go_wp2_with fail
  refine (HA.out w3 (w0.heap.size + 1) HB3.out (Nat.le_succ_of_le HS.out) HNB.out (fun k hk => by rw [HIB.out k hk]; exact Nat.le_succ_of_le HS.out)).mono ?_
  rintro e w4 ⟨g2, lb2, F2, rfl, hEg, hH4, hSt4, _, _⟩
  have hHA4 := HH3.out.keep hSt4.only (fun k hk hi => by
    have h1 := HIB.out k hi
    have h2 := HAI.out k hk
    omega)
  have HB4 := Lib.hid (show Below W.heap.size W w4 from HB3.out.trans (hSt4.only.toBelow HB3.out.size (fun k hk hi => by have := HIB.out k hi; have := HS.out; omega)))
  obtain ⟨vn, vs, hh, hN, hS⟩ := hHA4
  obtain ⟨un, us, hu, hN', hS'⟩ := hH4
  obtain ⟨c0, c1, _, _⟩ := heap_cells hh
  obtain ⟨d0, d1, _, _⟩ := heap_cells hu
  have hSame := same_any (fun _ => True) vn vs un us N S w4 ((ownsRow_slice hN).dom (fun _ _ _ => trivial) (by decide)) ((ownsRow_slice hS).dom (fun _ _ _ => trivial) (by decide)) ((ownsRow_slice hN').dom (fun _ _ _ => trivial) (by decide)) ((ownsRow_slice hS').dom (fun _ _ _ => trivial) (by decide))
  clear hEg hSt4 hh hu hN hS hN' hS'
  go_wp2_with fail
  refine hSame.mono ?_
  rintro e w5 ⟨rfl, hP⟩
  have HB5 := Lib.hid (show Below W.heap.size W w5 from HB4.out.trans (hP.toBelow HB4.out.size (fun _ _ f => f)))
  clear hP
  go_wp2
  go_ret
  exact ⟨rfl, HB5.out⟩
end Go.Proofs.Ythnjfekkngpbjaa

/- Writing over a list of numbers. -/
namespace Go.Proofs.Ythnjfekkngpbjaa
open Go.RowKit

theorem wipeInt64_any (g i : Nat) (u : Value) (w : World) (hc : w.cell? ⟨g, i, none⟩ = some u) (hf : w.frozen? ⟨g, i, none⟩ = false) :
    Calls Try.prog 67 #[.pointer (some ⟨g, i, none⟩)] w fun e w' => e = .returned (.tuple #[]) ∧ w' = w.setCell ⟨g, i, none⟩ (.int .i64 (-77)) := by
  go_enter Try.func67, Try.ntmps67
  go_wp2
  go_end0
  exact ⟨rfl, rfl⟩

set_option maxHeartbeats 1000000 in
set_option maxRecDepth 100000 in
theorem wipes_any (B : Nat) (v : Value) (l : List Int) (w : World) (h : w.ownsRow B 2 1 v l.length (l.map (.int .i64))) :
    Calls Try.prog 66 #[v, .func (.func 67) #[] #[]] w fun e w' => e = .returned (.tuple #[]) ∧ Only (fun k => v.ownBlock = some k) w w' := by
  by_cases h0 : l.length = 0
  · have hv : ∃ a c, v = .slice a 0 c := by
      rcases h.2 with ⟨rfl, _⟩ | ⟨g, cap, cur, rfl, _⟩
      · exact ⟨_, _, rfl⟩
      · exact ⟨_, _, by rw [h0]⟩
    obtain ⟨a, c, rfl⟩ := hv
    clear h
    go_enter Try.func66, Try.ntmps66
    go_wp2_with fail
    go_loopw [4] (fun i wr => i = .int .i64 0 ∧ wr = w) (fun _ _ => 0)
    case atStart => exact ⟨rfl, rfl⟩
    case round =>
      obtain ⟨rfl, rfl⟩ := hrel
      go_wp2
      go_end0
      exact ⟨rfl, Only.refl _ _⟩
  · obtain ⟨g, cap, rfl, _, _⟩ := h.form (by omega)
    have hl63 : l.length ≤ 9223372036854775807 := by
      rcases h.2 with ⟨h', _⟩ | ⟨_, _, _, _, _, _, hle, hm, _⟩
      · simp at h'
      · unfold maxLen at hm; omega
    have H := Lib.hid h; clear h
    generalize hn : l.length = n at H hl63 h0 ⊢
    go_enter Try.func66, Try.ntmps66
    go_wp2_with fail
    go_loopw [4] (fun i wr => ∃ k xs, k ≤ n ∧ i = .int .i64 k ∧ wr.ownsRow B 2 1 (.slice (some ⟨g, 0, none⟩) n cap) n xs ∧ Only (fun j => j = g) w wr) (fun i _ => n - (intOf i).toNat)
    case atStart => exact ⟨0, _, Nat.zero_le _, rfl, H.out, Only.refl _ _⟩
    case round =>
      obtain ⟨k, xs, hk, rfl, hrow, hO⟩ := hrel
      by_cases hlt : k < n
      · have hxl : k < xs.length := by have := hrow.1; omega
        have hc := hrow.cellAt k (by omega)
        rw [List.getElem?_eq_getElem hxl] at hc
        have hW := wipeInt64_any g k _ wr hc (hrow.frozenAt k)
        have hst := (hrow.stored k (.int .i64 (-77))).1
        have HST := Lib.hid hst
        have HO := Lib.hid (hO.setCell (p := ⟨g, k, none⟩) (.inl rfl) (.int .i64 (-77)))
        clear hc hrow hO hst
        go_wp2_with fail
        refine hW.mono ?_
        rintro e w2 ⟨rfl, rfl⟩
        clear hW
        go_wp2
        go_roundw
        case rel => exact ⟨k + 1, _, by omega, by go_num, HST.out, HO.out⟩
        case measure => simp [intOf]; omega
      · have HO := Lib.hid hO; clear hO hrow
        go_wp2
        go_end0
        exact ⟨rfl, HO.out.mono (fun k _ h => by subst h; rfl)⟩

set_option maxHeartbeats 1000000 in
set_option maxRecDepth 100000 in
theorem wipeInt64s_any (B nb : Nat) (v : Value) (l : List Int) (w : World) (h : w.ownsRow B 2 1 v l.length (l.map (.int .i64))) (hc : w.cell? ⟨nb, 0, none⟩ = some v) :
    Calls Try.prog 33 #[.pointer (some ⟨nb, 0, none⟩)] w fun e w' => e = .returned (.tuple #[]) ∧ Only (fun k => v.ownBlock = some k) w w' := by
  have hW := wipes_any B v l w h
  obtain ⟨a, n, c, rfl⟩ : ∃ a n c, v = .slice a n c := by
    rcases h.2 with ⟨rfl, _⟩ | ⟨g, cap, cur, rfl, _⟩ <;> exact ⟨_, _, _, rfl⟩
  clear h
  go_enter Try.func33, Try.ntmps33
  go_wp2_with fail
  refine hW.mono ?_
  rintro e w2 ⟨rfl, hO⟩
  go_wp2
  go_end0
  exact ⟨rfl, hO⟩

theorem flat_one {α β : Type} (f : α → β) (l : List α) : l.flatMap (fun a => [f a]) = l.map f := by
  induction l with
  | nil => rfl
  | cons a l ih => simp [ih]
theorem flat_none {α β : Type} (l : List α) : l.flatMap (fun _ => ([] : List β)) = [] := by
  induction l with
  | nil => rfl
  | cons a l ih => simp
theorem enc_row {w : World} {B : Nat} {v : Value} {l : List Int} (h : w.ownsRow B 2 1 v l.length (l.map (.int .i64))) : Enc (fun k => v.ownBlock = some k) w (.list (.num .i64)) [v] ((l.length : Int) :: l) [] := by
  have hs := ownsRow_slice h
  have := Enc.list (D := fun k => v.ownBlock = some k) (w := w) (e := .num .i64) (v := v) (l.map fun x => ([Value.int .i64 x], [x], []))
    (by rw [List.flatMap_map]; simp only [flat_one]; exact hs) (by simp [Sh.size])
    (fun r hr => by obtain ⟨x, _, rfl⟩ := List.mem_map.1 hr; rfl) (fun r hr => by obtain ⟨x, _, rfl⟩ := List.mem_map.1 hr; exact .num _ _)
  rw [List.flatMap_map, List.flatMap_map, List.length_map] at this
  simp only [flat_one, flat_none, List.map_id'] at this
  exact this

theorem step_pure {hb : Nat} {w w' : World} {ns : List Int} {ss : List ByteArray} (h : HeapIs hb w ns ss) (hp : Pure w w') : Step hb w w' ∧ HeapIs hb w' ns ss := by
  obtain ⟨vn, vs, hh, _, _⟩ := id h
  exact ⟨⟨hp.mono (fun _ _ f => f.elim), fun k hk => .inl (in_stay hp hh (fun f => f) hk)⟩, h.keep hp (fun _ _ f => f)⟩

theorem nothing_any (w : World) : Calls Try.prog 10 #[] w fun e w' => e = .returned (.tuple #[]) ∧ Only (fun _ => False) w w' := by
  go_enter Try.func10, Try.ntmps10
  go_wp2
  go_end0
  exact ⟨rfl, Only.refl _ _⟩

end Go.Proofs.Ythnjfekkngpbjaa

/- What each function is asked, twice. -/
namespace Go.Proofs.Ythnjfekkngpbjaa
open Go.RowKit

/-- The arguments, in their box. -/
structure ArgsAt (D : Nat → Prop) (w : World) (bx : Nat) (ra lo hi : Fr) (step runner : Int) (p : OPool) (m : Market) (st ch : List Int) (pv qv sv chv : Value) : Prop where
  box : w.heap[bx]? = some (.cells #[.int .i64 ra.1, .int .i64 ra.2, .int .i64 step, .int .i64 lo.1, .int .i64 lo.2, .int .i64 hi.1, .int .i64 hi.2, pv, .int .i64 p.cut, .int .i64 runner, .int .i64 m.runners, qv, sv, chv] 32 (0, 0))
  pool : Pairs D w pv p.stakes
  market : Quotes D w qv m.quotes
  stakes : Ints D w sv st
  chances : Ints D w chv ch

theorem ArgsAt.keep {D S : Nat → Prop} {w w' : World} {bx : Nat} {ra lo hi : Fr} {step runner : Int} {p : OPool} {m : Market} {st ch : List Int} {pv qv sv chv : Value} (h : ArgsAt D w bx ra lo hi step runner p m st ch pv qv sv chv)
    (ho : Only S w w') (hd : ∀ k, D k → ¬ S k) (hb : ¬ S bx) : ArgsAt D w' bx ra lo hi step runner p m st ch pv qv sv chv :=
  ⟨ho.heap h.box hb, h.pool.keep ho hd, h.market.keep ho hd, h.stakes.keep ho hd, h.chances.keep ho hd⟩

theorem ArgsAt.cells {D : Nat → Prop} {w : World} {bx : Nat} {ra lo hi : Fr} {step runner : Int} {p : OPool} {m : Market} {st ch : List Int} {pv qv sv chv : Value} (h : ArgsAt D w bx ra lo hi step runner p m st ch pv qv sv chv) :
    w.cell? ⟨bx, 0, none⟩ = some (.int .i64 ra.1) ∧ w.cell? ⟨bx, 1, none⟩ = some (.int .i64 ra.2) ∧ w.cell? ⟨bx, 2, none⟩ = some (.int .i64 step) ∧ w.cell? ⟨bx, 3, none⟩ = some (.int .i64 lo.1) ∧ w.cell? ⟨bx, 4, none⟩ = some (.int .i64 lo.2) ∧ w.cell? ⟨bx, 5, none⟩ = some (.int .i64 hi.1) ∧ w.cell? ⟨bx, 6, none⟩ = some (.int .i64 hi.2) ∧ w.cell? ⟨bx, 7, none⟩ = some (pv) ∧ w.cell? ⟨bx, 8, none⟩ = some (.int .i64 p.cut) ∧ w.cell? ⟨bx, 9, none⟩ = some (.int .i64 runner) ∧ w.cell? ⟨bx, 10, none⟩ = some (.int .i64 m.runners) ∧ w.cell? ⟨bx, 11, none⟩ = some (qv) ∧ w.cell? ⟨bx, 12, none⟩ = some (sv) ∧ w.cell? ⟨bx, 13, none⟩ = some (chv) :=
  ⟨cell_of_row _ _ _ _ _ _ h.box, cell_of_row _ _ _ _ _ _ h.box, cell_of_row _ _ _ _ _ _ h.box, cell_of_row _ _ _ _ _ _ h.box, cell_of_row _ _ _ _ _ _ h.box, cell_of_row _ _ _ _ _ _ h.box, cell_of_row _ _ _ _ _ _ h.box, cell_of_row _ _ _ _ _ _ h.box, cell_of_row _ _ _ _ _ _ h.box, cell_of_row _ _ _ _ _ _ h.box, cell_of_row _ _ _ _ _ _ h.box, cell_of_row _ _ _ _ _ _ h.box, cell_of_row _ _ _ _ _ _ h.box, cell_of_row _ _ _ _ _ _ h.box⟩

theorem stakes_small (m : Market) : (stakesR m).1.length ≤ 60 := by
  unfold stakesR
  split
  · simp
  · rename_i h
    dsimp only
    split
    · simp
    · have := (market_zero (m := m) (by simpa using h)).2.2.1
      rw [put_len]; simp; omega
theorem ownLen (d : DeskS) : ∀ (f r : Nat) (l : List Fr), (chFrom d f r l).length = l.length
  | 0, _, _ => rfl
  | f + 1, r, l => by
    have hs : (chStep d l r).1.length = l.length := by unfold chStep; dsimp only; split <;> simp
    unfold chFrom
    split
    · split
      · exact hs
      · rw [ownLen d f, hs]
    · rfl
theorem chances_small (m : Market) : (chancesR m).1.length ≤ 60 := by
  unfold chancesR
  split
  · simp
  · rename_i h
    split
    · simp
    · obtain ⟨h1, h2, _⟩ := market_zero (m := m) (by simpa using h)
      simp only [chancesOf, List.length_map, ownOf, ownLen, List.length_take]
      omega

set_option maxHeartbeats 1000000 in
set_option maxRecDepth 100000 in
theorem ask_Near {W : World} {bx : Nat} {ra lo hi : Fr} {step runner : Int} {p : OPool} {m : Market} {st ch : List Int} {pv qv sv chv : Value} (h : ArgsAt (fun k => k < W.heap.size) W bx ra lo hi step runner p m st ch pv qv sv chv) (hbx : bx < W.heap.size) : Asks 6 bx W ([(nearR ra step).1.1, (nearR ra step).1.2] ++ [(nearR ra step).2.1.1, (nearR ra step).2.1.2] ++ [(nearR ra step).2.2]) [] := by
  intro w hb hB hhb hH hI
  have hA := h.keep (Only.below hB) (fun k hk hn => by omega) (by omega)
  obtain ⟨x0, x1, x2, x3, x4, x5, x6, x7, x8, x9, x10, x11, x12, x13⟩ := hA.cells
  have hC := Near_any ra step w
  obtain ⟨R, hR⟩ : ∃ x, nearR ra step = x := ⟨_, rfl⟩
  have HR := Lib.hid hR
  rw [hR] at hC ⊢
  clear hR
  have HI := Lib.hid hI; clear hI hB
  obtain ⟨s01, s02, s03, rfl⟩ : ∃ a n c, pv = .slice a n c := by obtain ⟨a, n, c, hh, _⟩ := hA.pool; exact ⟨a, n, c, hh⟩
  obtain ⟨s11, s12, s13, rfl⟩ : ∃ a n c, qv = .slice a n c := by obtain ⟨a, n, c, hh, _⟩ := hA.market; exact ⟨a, n, c, hh⟩
  obtain ⟨s21, s22, s23, rfl⟩ : ∃ a n c, sv = .slice a n c := by obtain ⟨a, n, c, hh, _⟩ := hA.stakes; exact ⟨a, n, c, hh⟩
  obtain ⟨s31, s32, s33, rfl⟩ : ∃ a n c, chv = .slice a n c := by obtain ⟨a, n, c, hh, _⟩ := hA.chances; exact ⟨a, n, c, hh⟩
  clear hA
  go_enter Try.func6, Try.ntmps6
  go_wp2_with fail
  refine hC.mono ?_
  rintro e w1 ⟨rfl, P1⟩
  have hP1 := (P1.alloc (.cells #[.int .i64 R.1.1, .int .i64 R.1.2] 23)).alloc (.cells #[.int .i64 R.2.1.1, .int .i64 R.2.1.2] 23)
  obtain ⟨hS0, hH0⟩ := step_pure hH hP1
  have hx1 := World.alloc_heap_new (w1.alloc (.cells #[.int .i64 R.1.1, .int .i64 R.1.2] 23)) (.cells #[.int .i64 R.2.1.1, .int .i64 R.2.1.2] 23)
  rw [World.size_alloc] at hx1
  have hz1 : ¬ InHeap hb ((w1.alloc (.cells #[.int .i64 R.1.1, .int .i64 R.1.2] 23)).alloc (.cells #[.int .i64 R.2.1.1, .int .i64 R.2.1.2] 23)) (w1.heap.size + 1) := fun hi => by
    obtain ⟨vn, vs, hh, _, _⟩ := id hH
    have h2 := InHeap.lt hH (in_stay hP1 hh (fun f => f) hi)
    have := P1.size
    omega
  have HX1 := Lib.hid hx1; have HZ1 := Lib.hid hz1
  clear hx1 hz1
  clear hC P1
  go_wp2_with fail
  refine (putRatio_any hb (.int .i64 R.1.1) (.int .i64 R.1.2) (fun _ => False) [] [] [R.1.1, R.1.2] [] _ hH0 (fun _ f => f.elim) (.cons (.num _ _) (.cons (.num _ _) .nil)) (by constructor <;> simp)).mono ?_
  rintro e w2 ⟨rfl, hH1, hT1⟩
  have hS1 := hS0.trans hT1
  have hr1 := hT1.only.heap HX1.out HZ1.out
  have q0 : w2.cell? ⟨w1.heap.size + 1, 0, none⟩ = _ := cell_of_row _ _ 0 _ _ _ hr1
  have q1 : w2.cell? ⟨w1.heap.size + 1, 1, none⟩ = _ := cell_of_row _ _ 1 _ _ _ hr1
  simp only [List.getElem?_toArray, List.getElem?_cons_zero, List.getElem?_cons_succ] at q0 q1
  clear hr1
  go_wp2_with fail
  refine (putRatio_any hb (.int .i64 R.2.1.1) (.int .i64 R.2.1.2) (fun _ => False) ([] ++ [R.1.1, R.1.2]) [] [R.2.1.1, R.2.1.2] [] _ hH1 (fun _ f => f.elim) (.cons (.num _ _) (.cons (.num _ _) .nil)) (by constructor <;> simp)).mono ?_
  rintro e w3 ⟨rfl, hH2, hT2⟩
  have hS2 := hS1.trans hT2
  go_wp2_with fail
  refine (putErrno_any hb (.int .i64 R.2.2) (fun _ => False) (([] ++ [R.1.1, R.1.2]) ++ [R.2.1.1, R.2.1.2]) [] [R.2.2] [] _ hH2 (fun _ f => f.elim) (.num _ _) (by constructor <;> simp)).mono ?_
  rintro e w4 ⟨rfl, hH3, hT3⟩
  have hS3 := hS2.trans hT3
  have HS := Lib.hid hS3; have HH := Lib.hid hH3
  go_wp2
  go_ret
  exact ⟨10, #[], fun _ => False, rfl, enters_of Try.func10 (by kernel_rfl) rfl, by simpa using HH.out, HS.out, fun _ f => f.elim, nothing_any _⟩

set_option maxHeartbeats 1000000 in
set_option maxRecDepth 100000 in
theorem ask_CheckNear {W : World} {bx : Nat} {ra lo hi : Fr} {step runner : Int} {p : OPool} {m : Market} {st ch : List Int} {pv qv sv chv : Value} (h : ArgsAt (fun k => k < W.heap.size) W bx ra lo hi step runner p m st ch pv qv sv chv) (hbx : bx < W.heap.size) : Asks 11 bx W ([(checkNear ra step lo hi)]) [] := by
  intro w hb hB hhb hH hI
  have hA := h.keep (Only.below hB) (fun k hk hn => by omega) (by omega)
  obtain ⟨x0, x1, x2, x3, x4, x5, x6, x7, x8, x9, x10, x11, x12, x13⟩ := hA.cells
  have hC := CheckNear_any ra step lo hi w
  obtain ⟨R, hR⟩ : ∃ x, checkNear ra step lo hi = x := ⟨_, rfl⟩
  have HR := Lib.hid hR
  rw [hR] at hC ⊢
  clear hR
  have HI := Lib.hid hI; clear hI hB
  obtain ⟨s01, s02, s03, rfl⟩ : ∃ a n c, pv = .slice a n c := by obtain ⟨a, n, c, hh, _⟩ := hA.pool; exact ⟨a, n, c, hh⟩
  obtain ⟨s11, s12, s13, rfl⟩ : ∃ a n c, qv = .slice a n c := by obtain ⟨a, n, c, hh, _⟩ := hA.market; exact ⟨a, n, c, hh⟩
  obtain ⟨s21, s22, s23, rfl⟩ : ∃ a n c, sv = .slice a n c := by obtain ⟨a, n, c, hh, _⟩ := hA.stakes; exact ⟨a, n, c, hh⟩
  obtain ⟨s31, s32, s33, rfl⟩ : ∃ a n c, chv = .slice a n c := by obtain ⟨a, n, c, hh, _⟩ := hA.chances; exact ⟨a, n, c, hh⟩
  clear hA
  go_enter Try.func11, Try.ntmps11
  go_wp2_with fail
  refine hC.mono ?_
  rintro e w1 ⟨rfl, P1⟩
  obtain ⟨hS0, hH0⟩ := step_pure hH P1
  clear hC P1
  go_wp2_with fail
  refine (putErrno_any hb (.int .i64 R) (fun _ => False) [] [] [R] [] _ hH0 (fun _ f => f.elim) (.num _ _) (by constructor <;> simp)).mono ?_
  rintro e w2 ⟨rfl, hH1, hT1⟩
  have hS1 := hS0.trans hT1
  have HS := Lib.hid hS1; have HH := Lib.hid hH1
  go_wp2
  go_ret
  exact ⟨10, #[], fun _ => False, rfl, enters_of Try.func10 (by kernel_rfl) rfl, by simpa using HH.out, HS.out, fun _ f => f.elim, nothing_any _⟩

set_option maxHeartbeats 1000000 in
set_option maxRecDepth 100000 in
theorem ask_Round {W : World} {bx : Nat} {ra lo hi : Fr} {step runner : Int} {p : OPool} {m : Market} {st ch : List Int} {pv qv sv chv : Value} (h : ArgsAt (fun k => k < W.heap.size) W bx ra lo hi step runner p m st ch pv qv sv chv) (hbx : bx < W.heap.size) : Asks 13 bx W ([(roundR ra step).1.1, (roundR ra step).1.2] ++ [(roundR ra step).2]) [] := by
  intro w hb hB hhb hH hI
  have hA := h.keep (Only.below hB) (fun k hk hn => by omega) (by omega)
  obtain ⟨x0, x1, x2, x3, x4, x5, x6, x7, x8, x9, x10, x11, x12, x13⟩ := hA.cells
  have hC := Round_any ra step w
  obtain ⟨R, hR⟩ : ∃ x, roundR ra step = x := ⟨_, rfl⟩
  have HR := Lib.hid hR
  rw [hR] at hC ⊢
  clear hR
  have HI := Lib.hid hI; clear hI hB
  obtain ⟨s01, s02, s03, rfl⟩ : ∃ a n c, pv = .slice a n c := by obtain ⟨a, n, c, hh, _⟩ := hA.pool; exact ⟨a, n, c, hh⟩
  obtain ⟨s11, s12, s13, rfl⟩ : ∃ a n c, qv = .slice a n c := by obtain ⟨a, n, c, hh, _⟩ := hA.market; exact ⟨a, n, c, hh⟩
  obtain ⟨s21, s22, s23, rfl⟩ : ∃ a n c, sv = .slice a n c := by obtain ⟨a, n, c, hh, _⟩ := hA.stakes; exact ⟨a, n, c, hh⟩
  obtain ⟨s31, s32, s33, rfl⟩ : ∃ a n c, chv = .slice a n c := by obtain ⟨a, n, c, hh, _⟩ := hA.chances; exact ⟨a, n, c, hh⟩
  clear hA
  go_enter Try.func13, Try.ntmps13
  go_wp2_with fail
  refine hC.mono ?_
  rintro e w1 ⟨rfl, P1⟩
  have hP1 := P1.alloc (.cells #[.int .i64 R.1.1, .int .i64 R.1.2] 23)
  obtain ⟨hS0, hH0⟩ := step_pure hH hP1
  clear hC P1
  go_wp2_with fail
  refine (putRatio_any hb (.int .i64 R.1.1) (.int .i64 R.1.2) (fun _ => False) [] [] [R.1.1, R.1.2] [] _ hH0 (fun _ f => f.elim) (.cons (.num _ _) (.cons (.num _ _) .nil)) (by constructor <;> simp)).mono ?_
  rintro e w2 ⟨rfl, hH1, hT1⟩
  have hS1 := hS0.trans hT1
  go_wp2_with fail
  refine (putErrno_any hb (.int .i64 R.2) (fun _ => False) ([] ++ [R.1.1, R.1.2]) [] [R.2] [] _ hH1 (fun _ f => f.elim) (.num _ _) (by constructor <;> simp)).mono ?_
  rintro e w3 ⟨rfl, hH2, hT2⟩
  have hS2 := hS1.trans hT2
  have HS := Lib.hid hS2; have HH := Lib.hid hH2
  go_wp2
  go_ret
  exact ⟨10, #[], fun _ => False, rfl, enters_of Try.func10 (by kernel_rfl) rfl, by simpa using HH.out, HS.out, fun _ f => f.elim, nothing_any _⟩

set_option maxHeartbeats 1000000 in
set_option maxRecDepth 100000 in
theorem ask_Simplest {W : World} {bx : Nat} {ra lo hi : Fr} {step runner : Int} {p : OPool} {m : Market} {st ch : List Int} {pv qv sv chv : Value} (h : ArgsAt (fun k => k < W.heap.size) W bx ra lo hi step runner p m st ch pv qv sv chv) (hbx : bx < W.heap.size) : Asks 15 bx W ([(simplestR lo hi).1.1, (simplestR lo hi).1.2] ++ [(simplestR lo hi).2]) [] := by
  intro w hb hB hhb hH hI
  have hA := h.keep (Only.below hB) (fun k hk hn => by omega) (by omega)
  obtain ⟨x0, x1, x2, x3, x4, x5, x6, x7, x8, x9, x10, x11, x12, x13⟩ := hA.cells
  have hC := Simplest_any lo hi w
  obtain ⟨R, hR⟩ : ∃ x, simplestR lo hi = x := ⟨_, rfl⟩
  have HR := Lib.hid hR
  rw [hR] at hC ⊢
  clear hR
  have HI := Lib.hid hI; clear hI hB
  obtain ⟨s01, s02, s03, rfl⟩ : ∃ a n c, pv = .slice a n c := by obtain ⟨a, n, c, hh, _⟩ := hA.pool; exact ⟨a, n, c, hh⟩
  obtain ⟨s11, s12, s13, rfl⟩ : ∃ a n c, qv = .slice a n c := by obtain ⟨a, n, c, hh, _⟩ := hA.market; exact ⟨a, n, c, hh⟩
  obtain ⟨s21, s22, s23, rfl⟩ : ∃ a n c, sv = .slice a n c := by obtain ⟨a, n, c, hh, _⟩ := hA.stakes; exact ⟨a, n, c, hh⟩
  obtain ⟨s31, s32, s33, rfl⟩ : ∃ a n c, chv = .slice a n c := by obtain ⟨a, n, c, hh, _⟩ := hA.chances; exact ⟨a, n, c, hh⟩
  clear hA
  go_enter Try.func15, Try.ntmps15
  go_wp2_with fail
  refine hC.mono ?_
  rintro e w1 ⟨rfl, P1⟩
  have hP1 := P1.alloc (.cells #[.int .i64 R.1.1, .int .i64 R.1.2] 23)
  obtain ⟨hS0, hH0⟩ := step_pure hH hP1
  clear hC P1
  go_wp2_with fail
  refine (putRatio_any hb (.int .i64 R.1.1) (.int .i64 R.1.2) (fun _ => False) [] [] [R.1.1, R.1.2] [] _ hH0 (fun _ f => f.elim) (.cons (.num _ _) (.cons (.num _ _) .nil)) (by constructor <;> simp)).mono ?_
  rintro e w2 ⟨rfl, hH1, hT1⟩
  have hS1 := hS0.trans hT1
  go_wp2_with fail
  refine (putErrno_any hb (.int .i64 R.2) (fun _ => False) ([] ++ [R.1.1, R.1.2]) [] [R.2] [] _ hH1 (fun _ f => f.elim) (.num _ _) (by constructor <;> simp)).mono ?_
  rintro e w3 ⟨rfl, hH2, hT2⟩
  have hS2 := hS1.trans hT2
  have HS := Lib.hid hS2; have HH := Lib.hid hH2
  go_wp2
  go_ret
  exact ⟨10, #[], fun _ => False, rfl, enters_of Try.func10 (by kernel_rfl) rfl, by simpa using HH.out, HS.out, fun _ f => f.elim, nothing_any _⟩

set_option maxHeartbeats 1000000 in
set_option maxRecDepth 100000 in
theorem ask_CheckPool {W : World} {bx : Nat} {ra lo hi : Fr} {step runner : Int} {p : OPool} {m : Market} {st ch : List Int} {pv qv sv chv : Value} (h : ArgsAt (fun k => k < W.heap.size) W bx ra lo hi step runner p m st ch pv qv sv chv) (hbx : bx < W.heap.size) : Asks 17 bx W ([(checkPool p)]) [] := by
  intro w hb hB hhb hH hI
  have hA := h.keep (Only.below hB) (fun k hk hn => by omega) (by omega)
  obtain ⟨x0, x1, x2, x3, x4, x5, x6, x7, x8, x9, x10, x11, x12, x13⟩ := hA.cells
  have hC := checkPool_any _ _ p w hA.pool
  obtain ⟨R, hR⟩ : ∃ x, checkPool p = x := ⟨_, rfl⟩
  have HR := Lib.hid hR
  rw [hR] at hC ⊢
  clear hR
  have HI := Lib.hid hI; clear hI hB
  obtain ⟨s01, s02, s03, rfl⟩ : ∃ a n c, pv = .slice a n c := by obtain ⟨a, n, c, hh, _⟩ := hA.pool; exact ⟨a, n, c, hh⟩
  obtain ⟨s11, s12, s13, rfl⟩ : ∃ a n c, qv = .slice a n c := by obtain ⟨a, n, c, hh, _⟩ := hA.market; exact ⟨a, n, c, hh⟩
  obtain ⟨s21, s22, s23, rfl⟩ : ∃ a n c, sv = .slice a n c := by obtain ⟨a, n, c, hh, _⟩ := hA.stakes; exact ⟨a, n, c, hh⟩
  obtain ⟨s31, s32, s33, rfl⟩ : ∃ a n c, chv = .slice a n c := by obtain ⟨a, n, c, hh, _⟩ := hA.chances; exact ⟨a, n, c, hh⟩
  clear hA
  go_enter Try.func17, Try.ntmps17
  go_wp2_with fail
  refine hC.mono ?_
  rintro e w1 ⟨rfl, P1⟩
  obtain ⟨hS0, hH0⟩ := step_pure hH P1
  clear hC P1
  go_wp2_with fail
  refine (putErrno_any hb (.int .i64 R) (fun _ => False) [] [] [R] [] _ hH0 (fun _ f => f.elim) (.num _ _) (by constructor <;> simp)).mono ?_
  rintro e w2 ⟨rfl, hH1, hT1⟩
  have hS1 := hS0.trans hT1
  have HS := Lib.hid hS1; have HH := Lib.hid hH1
  go_wp2
  go_ret
  exact ⟨10, #[], fun _ => False, rfl, enters_of Try.func10 (by kernel_rfl) rfl, by simpa using HH.out, HS.out, fun _ f => f.elim, nothing_any _⟩

set_option maxHeartbeats 1000000 in
set_option maxRecDepth 100000 in
theorem ask_Span {W : World} {bx : Nat} {ra lo hi : Fr} {step runner : Int} {p : OPool} {m : Market} {st ch : List Int} {pv qv sv chv : Value} (h : ArgsAt (fun k => k < W.heap.size) W bx ra lo hi step runner p m st ch pv qv sv chv) (hbx : bx < W.heap.size) : Asks 19 bx W ([(spanR p runner).1.1, (spanR p runner).1.2] ++ [(spanR p runner).2.1.1, (spanR p runner).2.1.2] ++ [(spanR p runner).2.2]) [] := by
  intro w hb hB hhb hH hI
  have hA := h.keep (Only.below hB) (fun k hk hn => by omega) (by omega)
  obtain ⟨x0, x1, x2, x3, x4, x5, x6, x7, x8, x9, x10, x11, x12, x13⟩ := hA.cells
  have hC := Span_any _ _ p runner w hA.pool
  obtain ⟨R, hR⟩ : ∃ x, spanR p runner = x := ⟨_, rfl⟩
  have HR := Lib.hid hR
  rw [hR] at hC ⊢
  clear hR
  have HI := Lib.hid hI; clear hI hB
  obtain ⟨s01, s02, s03, rfl⟩ : ∃ a n c, pv = .slice a n c := by obtain ⟨a, n, c, hh, _⟩ := hA.pool; exact ⟨a, n, c, hh⟩
  obtain ⟨s11, s12, s13, rfl⟩ : ∃ a n c, qv = .slice a n c := by obtain ⟨a, n, c, hh, _⟩ := hA.market; exact ⟨a, n, c, hh⟩
  obtain ⟨s21, s22, s23, rfl⟩ : ∃ a n c, sv = .slice a n c := by obtain ⟨a, n, c, hh, _⟩ := hA.stakes; exact ⟨a, n, c, hh⟩
  obtain ⟨s31, s32, s33, rfl⟩ : ∃ a n c, chv = .slice a n c := by obtain ⟨a, n, c, hh, _⟩ := hA.chances; exact ⟨a, n, c, hh⟩
  clear hA
  go_enter Try.func19, Try.ntmps19
  go_wp2_with fail
  refine hC.mono ?_
  rintro e w1 ⟨rfl, P1⟩
  have hP1 := (P1.alloc (.cells #[.int .i64 R.1.1, .int .i64 R.1.2] 23)).alloc (.cells #[.int .i64 R.2.1.1, .int .i64 R.2.1.2] 23)
  obtain ⟨hS0, hH0⟩ := step_pure hH hP1
  have hx1 := World.alloc_heap_new (w1.alloc (.cells #[.int .i64 R.1.1, .int .i64 R.1.2] 23)) (.cells #[.int .i64 R.2.1.1, .int .i64 R.2.1.2] 23)
  rw [World.size_alloc] at hx1
  have hz1 : ¬ InHeap hb ((w1.alloc (.cells #[.int .i64 R.1.1, .int .i64 R.1.2] 23)).alloc (.cells #[.int .i64 R.2.1.1, .int .i64 R.2.1.2] 23)) (w1.heap.size + 1) := fun hi => by
    obtain ⟨vn, vs, hh, _, _⟩ := id hH
    have h2 := InHeap.lt hH (in_stay hP1 hh (fun f => f) hi)
    have := P1.size
    omega
  have HX1 := Lib.hid hx1; have HZ1 := Lib.hid hz1
  clear hx1 hz1
  clear hC P1
  go_wp2_with fail
  refine (putRatio_any hb (.int .i64 R.1.1) (.int .i64 R.1.2) (fun _ => False) [] [] [R.1.1, R.1.2] [] _ hH0 (fun _ f => f.elim) (.cons (.num _ _) (.cons (.num _ _) .nil)) (by constructor <;> simp)).mono ?_
  rintro e w2 ⟨rfl, hH1, hT1⟩
  have hS1 := hS0.trans hT1
  have hr1 := hT1.only.heap HX1.out HZ1.out
  have q0 : w2.cell? ⟨w1.heap.size + 1, 0, none⟩ = _ := cell_of_row _ _ 0 _ _ _ hr1
  have q1 : w2.cell? ⟨w1.heap.size + 1, 1, none⟩ = _ := cell_of_row _ _ 1 _ _ _ hr1
  simp only [List.getElem?_toArray, List.getElem?_cons_zero, List.getElem?_cons_succ] at q0 q1
  clear hr1
  go_wp2_with fail
  refine (putRatio_any hb (.int .i64 R.2.1.1) (.int .i64 R.2.1.2) (fun _ => False) ([] ++ [R.1.1, R.1.2]) [] [R.2.1.1, R.2.1.2] [] _ hH1 (fun _ f => f.elim) (.cons (.num _ _) (.cons (.num _ _) .nil)) (by constructor <;> simp)).mono ?_
  rintro e w3 ⟨rfl, hH2, hT2⟩
  have hS2 := hS1.trans hT2
  go_wp2_with fail
  refine (putErrno_any hb (.int .i64 R.2.2) (fun _ => False) (([] ++ [R.1.1, R.1.2]) ++ [R.2.1.1, R.2.1.2]) [] [R.2.2] [] _ hH2 (fun _ f => f.elim) (.num _ _) (by constructor <;> simp)).mono ?_
  rintro e w4 ⟨rfl, hH3, hT3⟩
  have hS3 := hS2.trans hT3
  have HS := Lib.hid hS3; have HH := Lib.hid hH3
  go_wp2
  go_ret
  exact ⟨10, #[], fun _ => False, rfl, enters_of Try.func10 (by kernel_rfl) rfl, by simpa using HH.out, HS.out, fun _ f => f.elim, nothing_any _⟩

set_option maxHeartbeats 1000000 in
set_option maxRecDepth 100000 in
theorem ask_Board {W : World} {bx : Nat} {ra lo hi : Fr} {step runner : Int} {p : OPool} {m : Market} {st ch : List Int} {pv qv sv chv : Value} (h : ArgsAt (fun k => k < W.heap.size) W bx ra lo hi step runner p m st ch pv qv sv chv) (hbx : bx < W.heap.size) : Asks 21 bx W ([(boardR p runner step).1.1, (boardR p runner step).1.2] ++ [(boardR p runner step).2.1.1, (boardR p runner step).2.1.2] ++ [(boardR p runner step).2.2]) [] := by
  intro w hb hB hhb hH hI
  have hA := h.keep (Only.below hB) (fun k hk hn => by omega) (by omega)
  obtain ⟨x0, x1, x2, x3, x4, x5, x6, x7, x8, x9, x10, x11, x12, x13⟩ := hA.cells
  have hC := Board_any _ _ p runner step w hA.pool
  obtain ⟨R, hR⟩ : ∃ x, boardR p runner step = x := ⟨_, rfl⟩
  have HR := Lib.hid hR
  rw [hR] at hC ⊢
  clear hR
  have HI := Lib.hid hI; clear hI hB
  obtain ⟨s01, s02, s03, rfl⟩ : ∃ a n c, pv = .slice a n c := by obtain ⟨a, n, c, hh, _⟩ := hA.pool; exact ⟨a, n, c, hh⟩
  obtain ⟨s11, s12, s13, rfl⟩ : ∃ a n c, qv = .slice a n c := by obtain ⟨a, n, c, hh, _⟩ := hA.market; exact ⟨a, n, c, hh⟩
  obtain ⟨s21, s22, s23, rfl⟩ : ∃ a n c, sv = .slice a n c := by obtain ⟨a, n, c, hh, _⟩ := hA.stakes; exact ⟨a, n, c, hh⟩
  obtain ⟨s31, s32, s33, rfl⟩ : ∃ a n c, chv = .slice a n c := by obtain ⟨a, n, c, hh, _⟩ := hA.chances; exact ⟨a, n, c, hh⟩
  clear hA
  go_enter Try.func21, Try.ntmps21
  go_wp2_with fail
  refine hC.mono ?_
  rintro e w1 ⟨rfl, P1⟩
  have hP1 := (P1.alloc (.cells #[.int .i64 R.1.1, .int .i64 R.1.2] 23)).alloc (.cells #[.int .i64 R.2.1.1, .int .i64 R.2.1.2] 23)
  obtain ⟨hS0, hH0⟩ := step_pure hH hP1
  have hx1 := World.alloc_heap_new (w1.alloc (.cells #[.int .i64 R.1.1, .int .i64 R.1.2] 23)) (.cells #[.int .i64 R.2.1.1, .int .i64 R.2.1.2] 23)
  rw [World.size_alloc] at hx1
  have hz1 : ¬ InHeap hb ((w1.alloc (.cells #[.int .i64 R.1.1, .int .i64 R.1.2] 23)).alloc (.cells #[.int .i64 R.2.1.1, .int .i64 R.2.1.2] 23)) (w1.heap.size + 1) := fun hi => by
    obtain ⟨vn, vs, hh, _, _⟩ := id hH
    have h2 := InHeap.lt hH (in_stay hP1 hh (fun f => f) hi)
    have := P1.size
    omega
  have HX1 := Lib.hid hx1; have HZ1 := Lib.hid hz1
  clear hx1 hz1
  clear hC P1
  go_wp2_with fail
  refine (putRatio_any hb (.int .i64 R.1.1) (.int .i64 R.1.2) (fun _ => False) [] [] [R.1.1, R.1.2] [] _ hH0 (fun _ f => f.elim) (.cons (.num _ _) (.cons (.num _ _) .nil)) (by constructor <;> simp)).mono ?_
  rintro e w2 ⟨rfl, hH1, hT1⟩
  have hS1 := hS0.trans hT1
  have hr1 := hT1.only.heap HX1.out HZ1.out
  have q0 : w2.cell? ⟨w1.heap.size + 1, 0, none⟩ = _ := cell_of_row _ _ 0 _ _ _ hr1
  have q1 : w2.cell? ⟨w1.heap.size + 1, 1, none⟩ = _ := cell_of_row _ _ 1 _ _ _ hr1
  simp only [List.getElem?_toArray, List.getElem?_cons_zero, List.getElem?_cons_succ] at q0 q1
  clear hr1
  go_wp2_with fail
  refine (putRatio_any hb (.int .i64 R.2.1.1) (.int .i64 R.2.1.2) (fun _ => False) ([] ++ [R.1.1, R.1.2]) [] [R.2.1.1, R.2.1.2] [] _ hH1 (fun _ f => f.elim) (.cons (.num _ _) (.cons (.num _ _) .nil)) (by constructor <;> simp)).mono ?_
  rintro e w3 ⟨rfl, hH2, hT2⟩
  have hS2 := hS1.trans hT2
  go_wp2_with fail
  refine (putErrno_any hb (.int .i64 R.2.2) (fun _ => False) (([] ++ [R.1.1, R.1.2]) ++ [R.2.1.1, R.2.1.2]) [] [R.2.2] [] _ hH2 (fun _ f => f.elim) (.num _ _) (by constructor <;> simp)).mono ?_
  rintro e w4 ⟨rfl, hH3, hT3⟩
  have hS3 := hS2.trans hT3
  have HS := Lib.hid hS3; have HH := Lib.hid hH3
  go_wp2
  go_ret
  exact ⟨10, #[], fun _ => False, rfl, enters_of Try.func10 (by kernel_rfl) rfl, by simpa using HH.out, HS.out, fun _ f => f.elim, nothing_any _⟩

set_option maxHeartbeats 1000000 in
set_option maxRecDepth 100000 in
theorem ask_CheckMarket {W : World} {bx : Nat} {ra lo hi : Fr} {step runner : Int} {p : OPool} {m : Market} {st ch : List Int} {pv qv sv chv : Value} (h : ArgsAt (fun k => k < W.heap.size) W bx ra lo hi step runner p m st ch pv qv sv chv) (hbx : bx < W.heap.size) : Asks 23 bx W ([(checkMarket m)]) [] := by
  intro w hb hB hhb hH hI
  have hA := h.keep (Only.below hB) (fun k hk hn => by omega) (by omega)
  obtain ⟨x0, x1, x2, x3, x4, x5, x6, x7, x8, x9, x10, x11, x12, x13⟩ := hA.cells
  have hC := checkMarket_any _ _ m w hA.market
  obtain ⟨R, hR⟩ : ∃ x, checkMarket m = x := ⟨_, rfl⟩
  have HR := Lib.hid hR
  rw [hR] at hC ⊢
  clear hR
  have HI := Lib.hid hI; clear hI hB
  obtain ⟨s01, s02, s03, rfl⟩ : ∃ a n c, pv = .slice a n c := by obtain ⟨a, n, c, hh, _⟩ := hA.pool; exact ⟨a, n, c, hh⟩
  obtain ⟨s11, s12, s13, rfl⟩ : ∃ a n c, qv = .slice a n c := by obtain ⟨a, n, c, hh, _⟩ := hA.market; exact ⟨a, n, c, hh⟩
  obtain ⟨s21, s22, s23, rfl⟩ : ∃ a n c, sv = .slice a n c := by obtain ⟨a, n, c, hh, _⟩ := hA.stakes; exact ⟨a, n, c, hh⟩
  obtain ⟨s31, s32, s33, rfl⟩ : ∃ a n c, chv = .slice a n c := by obtain ⟨a, n, c, hh, _⟩ := hA.chances; exact ⟨a, n, c, hh⟩
  clear hA
  go_enter Try.func23, Try.ntmps23
  go_wp2_with fail
  refine hC.mono ?_
  rintro e w1 ⟨rfl, P1⟩
  obtain ⟨hS0, hH0⟩ := step_pure hH P1
  clear hC P1
  go_wp2_with fail
  refine (putErrno_any hb (.int .i64 R) (fun _ => False) [] [] [R] [] _ hH0 (fun _ f => f.elim) (.num _ _) (by constructor <;> simp)).mono ?_
  rintro e w2 ⟨rfl, hH1, hT1⟩
  have hS1 := hS0.trans hT1
  have HS := Lib.hid hS1; have HH := Lib.hid hH1
  go_wp2
  go_ret
  exact ⟨10, #[], fun _ => False, rfl, enters_of Try.func10 (by kernel_rfl) rfl, by simpa using HH.out, HS.out, fun _ f => f.elim, nothing_any _⟩

set_option maxHeartbeats 1000000 in
set_option maxRecDepth 100000 in
theorem ask_Net {W : World} {bx : Nat} {ra lo hi : Fr} {step runner : Int} {p : OPool} {m : Market} {st ch : List Int} {pv qv sv chv : Value} (h : ArgsAt (fun k => k < W.heap.size) W bx ra lo hi step runner p m st ch pv qv sv chv) (hbx : bx < W.heap.size) : Asks 25 bx W ([(netR m st runner).1.1, (netR m st runner).1.2] ++ [(netR m st runner).2]) [] := by
  intro w hb hB hhb hH hI
  have hA := h.keep (Only.below hB) (fun k hk hn => by omega) (by omega)
  obtain ⟨x0, x1, x2, x3, x4, x5, x6, x7, x8, x9, x10, x11, x12, x13⟩ := hA.cells
  have hC := Net_any _ _ _ _ m st runner w hA.market hA.stakes
  obtain ⟨R, hR⟩ : ∃ x, netR m st runner = x := ⟨_, rfl⟩
  have HR := Lib.hid hR
  rw [hR] at hC ⊢
  clear hR
  have HI := Lib.hid hI; clear hI hB
  obtain ⟨s01, s02, s03, rfl⟩ : ∃ a n c, pv = .slice a n c := by obtain ⟨a, n, c, hh, _⟩ := hA.pool; exact ⟨a, n, c, hh⟩
  obtain ⟨s11, s12, s13, rfl⟩ : ∃ a n c, qv = .slice a n c := by obtain ⟨a, n, c, hh, _⟩ := hA.market; exact ⟨a, n, c, hh⟩
  obtain ⟨s21, s22, s23, rfl⟩ : ∃ a n c, sv = .slice a n c := by obtain ⟨a, n, c, hh, _⟩ := hA.stakes; exact ⟨a, n, c, hh⟩
  obtain ⟨s31, s32, s33, rfl⟩ : ∃ a n c, chv = .slice a n c := by obtain ⟨a, n, c, hh, _⟩ := hA.chances; exact ⟨a, n, c, hh⟩
  clear hA
  go_enter Try.func25, Try.ntmps25
  go_wp2_with fail
  refine hC.mono ?_
  rintro e w1 ⟨rfl, P1⟩
  have hP1 := P1.alloc (.cells #[.int .i64 R.1.1, .int .i64 R.1.2] 23)
  obtain ⟨hS0, hH0⟩ := step_pure hH hP1
  clear hC P1
  go_wp2_with fail
  refine (putRatio_any hb (.int .i64 R.1.1) (.int .i64 R.1.2) (fun _ => False) [] [] [R.1.1, R.1.2] [] _ hH0 (fun _ f => f.elim) (.cons (.num _ _) (.cons (.num _ _) .nil)) (by constructor <;> simp)).mono ?_
  rintro e w2 ⟨rfl, hH1, hT1⟩
  have hS1 := hS0.trans hT1
  go_wp2_with fail
  refine (putErrno_any hb (.int .i64 R.2) (fun _ => False) ([] ++ [R.1.1, R.1.2]) [] [R.2] [] _ hH1 (fun _ f => f.elim) (.num _ _) (by constructor <;> simp)).mono ?_
  rintro e w3 ⟨rfl, hH2, hT2⟩
  have hS2 := hS1.trans hT2
  have HS := Lib.hid hS2; have HH := Lib.hid hH2
  go_wp2
  go_ret
  exact ⟨10, #[], fun _ => False, rfl, enters_of Try.func10 (by kernel_rfl) rfl, by simpa using HH.out, HS.out, fun _ f => f.elim, nothing_any _⟩

set_option maxHeartbeats 1000000 in
set_option maxRecDepth 100000 in
theorem ask_CheckStakes {W : World} {bx : Nat} {ra lo hi : Fr} {step runner : Int} {p : OPool} {m : Market} {st ch : List Int} {pv qv sv chv : Value} (h : ArgsAt (fun k => k < W.heap.size) W bx ra lo hi step runner p m st ch pv qv sv chv) (hbx : bx < W.heap.size) : Asks 27 bx W ([(checkStakes m st)]) [] := by
  intro w hb hB hhb hH hI
  have hA := h.keep (Only.below hB) (fun k hk hn => by omega) (by omega)
  obtain ⟨x0, x1, x2, x3, x4, x5, x6, x7, x8, x9, x10, x11, x12, x13⟩ := hA.cells
  have hC := CheckStakes_any _ _ _ _ m st w hA.market hA.stakes
  obtain ⟨R, hR⟩ : ∃ x, checkStakes m st = x := ⟨_, rfl⟩
  have HR := Lib.hid hR
  rw [hR] at hC ⊢
  clear hR
  have HI := Lib.hid hI; clear hI hB
  obtain ⟨s01, s02, s03, rfl⟩ : ∃ a n c, pv = .slice a n c := by obtain ⟨a, n, c, hh, _⟩ := hA.pool; exact ⟨a, n, c, hh⟩
  obtain ⟨s11, s12, s13, rfl⟩ : ∃ a n c, qv = .slice a n c := by obtain ⟨a, n, c, hh, _⟩ := hA.market; exact ⟨a, n, c, hh⟩
  obtain ⟨s21, s22, s23, rfl⟩ : ∃ a n c, sv = .slice a n c := by obtain ⟨a, n, c, hh, _⟩ := hA.stakes; exact ⟨a, n, c, hh⟩
  obtain ⟨s31, s32, s33, rfl⟩ : ∃ a n c, chv = .slice a n c := by obtain ⟨a, n, c, hh, _⟩ := hA.chances; exact ⟨a, n, c, hh⟩
  clear hA
  go_enter Try.func27, Try.ntmps27
  go_wp2_with fail
  refine hC.mono ?_
  rintro e w1 ⟨rfl, P1⟩
  obtain ⟨hS0, hH0⟩ := step_pure hH P1
  clear hC P1
  go_wp2_with fail
  refine (putErrno_any hb (.int .i64 R) (fun _ => False) [] [] [R] [] _ hH0 (fun _ f => f.elim) (.num _ _) (by constructor <;> simp)).mono ?_
  rintro e w2 ⟨rfl, hH1, hT1⟩
  have hS1 := hS0.trans hT1
  have HS := Lib.hid hS1; have HH := Lib.hid hH1
  go_wp2
  go_ret
  exact ⟨10, #[], fun _ => False, rfl, enters_of Try.func10 (by kernel_rfl) rfl, by simpa using HH.out, HS.out, fun _ f => f.elim, nothing_any _⟩

set_option maxHeartbeats 1000000 in
set_option maxRecDepth 100000 in
theorem wipe_Stakes (B nb : Nat) (v : Value) (l : List Int) (w : World) (h : w.ownsRow B 2 1 v l.length (l.map (.int .i64))) (hc : w.cell? ⟨nb, 0, none⟩ = some v) :
    Calls Try.prog 32 #[.pointer (some ⟨nb, 0, none⟩)] w fun e w' => e = .returned (.tuple #[]) ∧ Only (fun k => v.ownBlock = some k) w w' := by
  go_enter Try.func32, Try.ntmps32
  go_wp2_with fail
  refine (wipeInt64s_any B nb v l w h hc).mono ?_
  rintro e w2 ⟨rfl, hO⟩
  go_wp2
  go_end0
  exact ⟨rfl, hO⟩

set_option maxHeartbeats 1000000 in
set_option maxRecDepth 100000 in
theorem ask_Stakes {W : World} {bx : Nat} {ra lo hi : Fr} {step runner : Int} {p : OPool} {m : Market} {st ch : List Int} {pv qv sv chv : Value} (h : ArgsAt (fun k => k < W.heap.size) W bx ra lo hi step runner p m st ch pv qv sv chv) (hbx : bx < W.heap.size) : Asks 29 bx W ((((stakesR m).1.length : Int) :: (stakesR m).1) ++ [(stakesR m).2]) [] := by
  intro w hb hB hhb hH hI
  have hA := h.keep (Only.below hB) (fun k hk hn => by omega) (by omega)
  obtain ⟨x0, x1, x2, x3, x4, x5, x6, x7, x8, x9, x10, x11, x12, x13⟩ := hA.cells
  have hC := Stakes_any _ _ m w hA.market
  obtain ⟨R, hR⟩ : ∃ x, stakesR m = x := ⟨_, rfl⟩
  have HR := Lib.hid hR
  have hsm := stakes_small m
  rw [hR] at hsm
  rw [hR] at hC ⊢
  clear hR
  have HI := Lib.hid hI; clear hI hB
  obtain ⟨s01, s02, s03, rfl⟩ : ∃ a n c, pv = .slice a n c := by obtain ⟨a, n, c, hh, _⟩ := hA.pool; exact ⟨a, n, c, hh⟩
  obtain ⟨s11, s12, s13, rfl⟩ : ∃ a n c, qv = .slice a n c := by obtain ⟨a, n, c, hh, _⟩ := hA.market; exact ⟨a, n, c, hh⟩
  obtain ⟨s21, s22, s23, rfl⟩ : ∃ a n c, sv = .slice a n c := by obtain ⟨a, n, c, hh, _⟩ := hA.stakes; exact ⟨a, n, c, hh⟩
  obtain ⟨s31, s32, s33, rfl⟩ : ∃ a n c, chv = .slice a n c := by obtain ⟨a, n, c, hh, _⟩ := hA.chances; exact ⟨a, n, c, hh⟩
  clear hA
  go_enter Try.func29, Try.ntmps29
  go_wp2_with fail
  refine hC.mono ?_
  rintro e w1 ⟨u, rfl, hF, P1⟩
  obtain ⟨u1, u2, u3, rfl⟩ : ∃ a n c, u = .slice a n c := by
    rcases hF.2 with ⟨rfl, _⟩ | ⟨g, cap, cur, rfl, _⟩ <;> exact ⟨_, _, _, rfl⟩
  have hP1 := P1.alloc (.cells #[.slice u1 u2 u3] 30)
  obtain ⟨hS0, hH0⟩ := step_pure hH hP1
  have hFB := (hF.lt)
  have hrow : (w1.alloc (.cells #[.slice u1 u2 u3] 30)).ownsRow w.heap.size 2 1 (.slice u1 u2 u3) R.1.length (R.1.map (.int .i64)) := World.ownsRow.alloc hF _
  have hnb : (w1.alloc (.cells #[.slice u1 u2 u3] 30)).heap[w1.heap.size]? = some (.cells #[.slice u1 u2 u3] 30 (0, 0)) := World.alloc_heap_new w1 _
  have hD : ∀ k, (Value.slice u1 u2 u3).ownBlock = some k → ¬ InHeap hb (w1.alloc (.cells #[.slice u1 u2 u3] 30)) k := fun k hk hi => by
    have h1 := (hFB k hk).1
    obtain ⟨vn, vs, hh, _, _⟩ := id hH
    have h2 := InHeap.lt hH (in_stay hP1 hh (fun f => f) hi)
    omega
  have hDn : ¬ InHeap hb (w1.alloc (.cells #[.slice u1 u2 u3] 30)) w1.heap.size := fun hi => by
    obtain ⟨vn, vs, hh, _, _⟩ := id hH
    have h2 := InHeap.lt hH (in_stay hP1 hh (fun f => f) hi)
    have := P1.size
    omega
  have hP1s := P1.size
  have HX := Lib.hid hFB; have HFl := Lib.hid hP1s
  clear hC P1 hF hFB
  go_wp2_with fail
  refine (putInt64s_any hb (.slice u1 u2 u3) _ [] [] _ [] _ hH0 hD (enc_row hrow) (by constructor <;> simp <;> omega)).mono ?_
  rintro e w2 ⟨rfl, hH1, hT1⟩
  have hS1 := hS0.trans hT1
  have hrow := owns_keep hrow hT1.only hD
  have hnb := hT1.only.heap hnb hDn
  have hlt : ∀ k, (Value.slice u1 u2 u3).ownBlock = some k → k < (w1.alloc (.cells #[.slice u1 u2 u3] 30)).heap.size := fun k hk => by have := (HX.out k hk).2; simp; omega
  have hD := hT1.apart hD hlt
  have hDn := hT1.apart (D := fun k => k = w1.heap.size) (fun k hk => by rw [hk]; exact hDn) (fun k hk => by rw [hk]; simp) _ rfl
  have hsz := hT1.only.size
  simp only [World.size_alloc] at hsz hlt
  go_wp2_with fail
  refine (putErrno_any hb (.int .i64 R.2) (fun _ => False) ([] ++ ((R.1.length : Int) :: R.1)) [] [R.2] [] _ hH1 (fun _ f => f.elim) (.num _ _) (by constructor <;> simp <;> omega)).mono ?_
  rintro e w3 ⟨rfl, hH2, hT2⟩
  have hS2 := hS1.trans hT2
  have hrow := owns_keep hrow hT2.only hD
  have hnb := hT2.only.heap hnb hDn
  have hD := hT2.apart hD (fun k hk => by have := hlt k hk; omega)
  have hDn := hT2.apart (D := fun k => k = w1.heap.size) (fun k hk => by rw [hk]; exact hDn) (fun k hk => by omega) _ rfl
  have hsz := Nat.le_trans hsz hT2.only.size
  have HS := Lib.hid hS2; have HH := Lib.hid hH2
  have HROW := Lib.hid hrow; have HNB := Lib.hid hnb; have HD := Lib.hid hD
  clear hrow hnb hD hDn hsz hlt
  go_wp2
  go_ret
  refine ⟨32, #[.pointer (some ⟨w1.heap.size, 0, none⟩)], fun k => (Value.slice u1 u2 u3).ownBlock = some k, rfl, enters_of Try.func32 (by kernel_rfl) rfl, by simpa using HH.out, HS.out, fun k hk => ⟨(HX.out k hk).1, HD.out k hk⟩, wipe_Stakes _ _ _ _ _ HROW.out (cell_of_row _ _ _ _ _ _ HNB.out)⟩

set_option maxHeartbeats 1000000 in
set_option maxRecDepth 100000 in
theorem ask_CheckChances {W : World} {bx : Nat} {ra lo hi : Fr} {step runner : Int} {p : OPool} {m : Market} {st ch : List Int} {pv qv sv chv : Value} (h : ArgsAt (fun k => k < W.heap.size) W bx ra lo hi step runner p m st ch pv qv sv chv) (hbx : bx < W.heap.size) : Asks 34 bx W ([(checkChances m ch)]) [] := by
  intro w hb hB hhb hH hI
  have hA := h.keep (Only.below hB) (fun k hk hn => by omega) (by omega)
  obtain ⟨x0, x1, x2, x3, x4, x5, x6, x7, x8, x9, x10, x11, x12, x13⟩ := hA.cells
  have hC := CheckChances_any _ _ _ _ m ch w hA.market hA.chances
  obtain ⟨R, hR⟩ : ∃ x, checkChances m ch = x := ⟨_, rfl⟩
  have HR := Lib.hid hR
  rw [hR] at hC ⊢
  clear hR
  have HI := Lib.hid hI; clear hI hB
  obtain ⟨s01, s02, s03, rfl⟩ : ∃ a n c, pv = .slice a n c := by obtain ⟨a, n, c, hh, _⟩ := hA.pool; exact ⟨a, n, c, hh⟩
  obtain ⟨s11, s12, s13, rfl⟩ : ∃ a n c, qv = .slice a n c := by obtain ⟨a, n, c, hh, _⟩ := hA.market; exact ⟨a, n, c, hh⟩
  obtain ⟨s21, s22, s23, rfl⟩ : ∃ a n c, sv = .slice a n c := by obtain ⟨a, n, c, hh, _⟩ := hA.stakes; exact ⟨a, n, c, hh⟩
  obtain ⟨s31, s32, s33, rfl⟩ : ∃ a n c, chv = .slice a n c := by obtain ⟨a, n, c, hh, _⟩ := hA.chances; exact ⟨a, n, c, hh⟩
  clear hA
  go_enter Try.func34, Try.ntmps34
  go_wp2_with fail
  refine hC.mono ?_
  rintro e w1 ⟨rfl, P1⟩
  obtain ⟨hS0, hH0⟩ := step_pure hH P1
  clear hC P1
  go_wp2_with fail
  refine (putErrno_any hb (.int .i64 R) (fun _ => False) [] [] [R] [] _ hH0 (fun _ f => f.elim) (.num _ _) (by constructor <;> simp)).mono ?_
  rintro e w2 ⟨rfl, hH1, hT1⟩
  have hS1 := hS0.trans hT1
  have HS := Lib.hid hS1; have HH := Lib.hid hH1
  go_wp2
  go_ret
  exact ⟨10, #[], fun _ => False, rfl, enters_of Try.func10 (by kernel_rfl) rfl, by simpa using HH.out, HS.out, fun _ f => f.elim, nothing_any _⟩

set_option maxHeartbeats 1000000 in
set_option maxRecDepth 100000 in
theorem wipe_Chances (B nb : Nat) (v : Value) (l : List Int) (w : World) (h : w.ownsRow B 2 1 v l.length (l.map (.int .i64))) (hc : w.cell? ⟨nb, 0, none⟩ = some v) :
    Calls Try.prog 38 #[.pointer (some ⟨nb, 0, none⟩)] w fun e w' => e = .returned (.tuple #[]) ∧ Only (fun k => v.ownBlock = some k) w w' := by
  go_enter Try.func38, Try.ntmps38
  go_wp2_with fail
  refine (wipeInt64s_any B nb v l w h hc).mono ?_
  rintro e w2 ⟨rfl, hO⟩
  go_wp2
  go_end0
  exact ⟨rfl, hO⟩

set_option maxHeartbeats 1000000 in
set_option maxRecDepth 100000 in
theorem ask_Chances {W : World} {bx : Nat} {ra lo hi : Fr} {step runner : Int} {p : OPool} {m : Market} {st ch : List Int} {pv qv sv chv : Value} (h : ArgsAt (fun k => k < W.heap.size) W bx ra lo hi step runner p m st ch pv qv sv chv) (hbx : bx < W.heap.size) : Asks 36 bx W ((((chancesR m).1.length : Int) :: (chancesR m).1) ++ [(chancesR m).2]) [] := by
  intro w hb hB hhb hH hI
  have hA := h.keep (Only.below hB) (fun k hk hn => by omega) (by omega)
  obtain ⟨x0, x1, x2, x3, x4, x5, x6, x7, x8, x9, x10, x11, x12, x13⟩ := hA.cells
  have hC := Chances_any _ _ m w hA.market
  obtain ⟨R, hR⟩ : ∃ x, chancesR m = x := ⟨_, rfl⟩
  have HR := Lib.hid hR
  have hsm := chances_small m
  rw [hR] at hsm
  rw [hR] at hC ⊢
  clear hR
  have HI := Lib.hid hI; clear hI hB
  obtain ⟨s01, s02, s03, rfl⟩ : ∃ a n c, pv = .slice a n c := by obtain ⟨a, n, c, hh, _⟩ := hA.pool; exact ⟨a, n, c, hh⟩
  obtain ⟨s11, s12, s13, rfl⟩ : ∃ a n c, qv = .slice a n c := by obtain ⟨a, n, c, hh, _⟩ := hA.market; exact ⟨a, n, c, hh⟩
  obtain ⟨s21, s22, s23, rfl⟩ : ∃ a n c, sv = .slice a n c := by obtain ⟨a, n, c, hh, _⟩ := hA.stakes; exact ⟨a, n, c, hh⟩
  obtain ⟨s31, s32, s33, rfl⟩ : ∃ a n c, chv = .slice a n c := by obtain ⟨a, n, c, hh, _⟩ := hA.chances; exact ⟨a, n, c, hh⟩
  clear hA
  go_enter Try.func36, Try.ntmps36
  go_wp2_with fail
  refine hC.mono ?_
  rintro e w1 ⟨u, rfl, hF, P1⟩
  obtain ⟨u1, u2, u3, rfl⟩ : ∃ a n c, u = .slice a n c := by
    rcases hF.2 with ⟨rfl, _⟩ | ⟨g, cap, cur, rfl, _⟩ <;> exact ⟨_, _, _, rfl⟩
  have hP1 := P1.alloc (.cells #[.slice u1 u2 u3] 30)
  obtain ⟨hS0, hH0⟩ := step_pure hH hP1
  have hFB := (hF.lt)
  have hrow : (w1.alloc (.cells #[.slice u1 u2 u3] 30)).ownsRow w.heap.size 2 1 (.slice u1 u2 u3) R.1.length (R.1.map (.int .i64)) := World.ownsRow.alloc hF _
  have hnb : (w1.alloc (.cells #[.slice u1 u2 u3] 30)).heap[w1.heap.size]? = some (.cells #[.slice u1 u2 u3] 30 (0, 0)) := World.alloc_heap_new w1 _
  have hD : ∀ k, (Value.slice u1 u2 u3).ownBlock = some k → ¬ InHeap hb (w1.alloc (.cells #[.slice u1 u2 u3] 30)) k := fun k hk hi => by
    have h1 := (hFB k hk).1
    obtain ⟨vn, vs, hh, _, _⟩ := id hH
    have h2 := InHeap.lt hH (in_stay hP1 hh (fun f => f) hi)
    omega
  have hDn : ¬ InHeap hb (w1.alloc (.cells #[.slice u1 u2 u3] 30)) w1.heap.size := fun hi => by
    obtain ⟨vn, vs, hh, _, _⟩ := id hH
    have h2 := InHeap.lt hH (in_stay hP1 hh (fun f => f) hi)
    have := P1.size
    omega
  have hP1s := P1.size
  have HX := Lib.hid hFB; have HFl := Lib.hid hP1s
  clear hC P1 hF hFB
  go_wp2_with fail
  refine (putInt64s_any hb (.slice u1 u2 u3) _ [] [] _ [] _ hH0 hD (enc_row hrow) (by constructor <;> simp <;> omega)).mono ?_
  rintro e w2 ⟨rfl, hH1, hT1⟩
  have hS1 := hS0.trans hT1
  have hrow := owns_keep hrow hT1.only hD
  have hnb := hT1.only.heap hnb hDn
  have hlt : ∀ k, (Value.slice u1 u2 u3).ownBlock = some k → k < (w1.alloc (.cells #[.slice u1 u2 u3] 30)).heap.size := fun k hk => by have := (HX.out k hk).2; simp; omega
  have hD := hT1.apart hD hlt
  have hDn := hT1.apart (D := fun k => k = w1.heap.size) (fun k hk => by rw [hk]; exact hDn) (fun k hk => by rw [hk]; simp) _ rfl
  have hsz := hT1.only.size
  simp only [World.size_alloc] at hsz hlt
  go_wp2_with fail
  refine (putErrno_any hb (.int .i64 R.2) (fun _ => False) ([] ++ ((R.1.length : Int) :: R.1)) [] [R.2] [] _ hH1 (fun _ f => f.elim) (.num _ _) (by constructor <;> simp <;> omega)).mono ?_
  rintro e w3 ⟨rfl, hH2, hT2⟩
  have hS2 := hS1.trans hT2
  have hrow := owns_keep hrow hT2.only hD
  have hnb := hT2.only.heap hnb hDn
  have hD := hT2.apart hD (fun k hk => by have := hlt k hk; omega)
  have hDn := hT2.apart (D := fun k => k = w1.heap.size) (fun k hk => by rw [hk]; exact hDn) (fun k hk => by omega) _ rfl
  have hsz := Nat.le_trans hsz hT2.only.size
  have HS := Lib.hid hS2; have HH := Lib.hid hH2
  have HROW := Lib.hid hrow; have HNB := Lib.hid hnb; have HD := Lib.hid hD
  clear hrow hnb hD hDn hsz hlt
  go_wp2
  go_ret
  refine ⟨38, #[.pointer (some ⟨w1.heap.size, 0, none⟩)], fun k => (Value.slice u1 u2 u3).ownBlock = some k, rfl, enters_of Try.func38 (by kernel_rfl) rfl, by simpa using HH.out, HS.out, fun k hk => ⟨(HX.out k hk).1, HD.out k hk⟩, wipe_Chances _ _ _ _ _ HROW.out (cell_of_row _ _ _ _ _ _ HNB.out)⟩
end Go.Proofs.Ythnjfekkngpbjaa

/- The document's check of a market, of stakes: where all is right. -/
namespace Go.Proofs.Ythnjfekkngpbjaa
open Go.RowKit

set_option maxHeartbeats 2000000 in
set_option maxRecDepth 100000 in
theorem refMarket_any (D : Nat → Prop) (v : Value) (m : Market) (w : World) (hq : Quotes D w v m.quotes) (hm : checkMarket m = 0) :
    Calls Try.prog 89 #[.agg #[.int .i64 m.runners, v]] w fun e w' => e = .returned (.int .i64 0) ∧ Pure w w' := by
  obtain ⟨r1, r5, l12, hqs⟩ := market_zero hm
  have hP1 : Pure w (w.alloc (.cells #[.int .i64 m.runners, v] 29)) := (Only.refl _ w).alloc _
  have k0 := World.alloc_heap_new w (.cells #[.int .i64 m.runners, v] 29)
  obtain ⟨ad, n, cp, rfl, hlen, hlc, hmax, hc⟩ := hq
  rw [← hlen] at hqs l12
  obtain ⟨R, hR⟩ : ∃ R, m.runners = R := ⟨_, rfl⟩
  rw [hR] at hqs r1 r5 hP1 k0 ⊢
  obtain ⟨w1, hw1⟩ : ∃ x, x = w.alloc (.cells #[.int .i64 R, .slice ad n cp] 29) := ⟨_, rfl⟩
  rw [← hw1] at hP1 k0
  have c0 : w1.cell? ⟨w.heap.size, 0, none⟩ = some (.int .i64 R) := cell_of_row _ _ 0 _ _ _ k0
  have c1 : w1.cell? ⟨w.heap.size, 1, none⟩ = some (.slice ad n cp) := cell_of_row _ _ 1 _ _ _ k0
  have e1 : decide (R < 1) = false := decide_eq_false (by omega)
  have e2 : decide (5 < R) = false := decide_eq_false (by omega)
  have e3 : decide ((12 : Int) < n) = false := decide_eq_false (by omega)
  have HW1 := Lib.hid hw1; have HC := Lib.hid hc; have HQS := Lib.hid hqs; have HP1 := Lib.hid hP1; have K0 := Lib.hid k0; have HL := Lib.hid hlen
  clear hw1 hc hqs hP1 k0 hR hm hlen
  go_enter Try.func89, Try.ntmps89
  go_upto_region 1 with fail
  rw [← HW1.out]
  go_wp2_with fail
  clear c0 c1
  go_loopw [3] (fun i wr => ∃ k : Nat, k ≤ n ∧ i = .int .i64 k ∧ Hid (Pure w1 wr)) (fun i _ => n - (intOf i).toNat)
  case atStart => exact ⟨0, Nat.zero_le _, rfl, Lib.hid (Only.refl _ _)⟩
  case round =>
    obtain ⟨k, hk, rfl, hP⟩ := hrel
    have hb := hP.out.heap K0.out (fun f => f)
    have c0 : wr.cell? ⟨w.heap.size, 0, none⟩ = some (.int .i64 R) := cell_of_row _ _ 0 _ _ _ hb
    have c1 : wr.cell? ⟨w.heap.size, 1, none⟩ = some (.slice ad n cp) := cell_of_row _ _ 1 _ _ _ hb
    clear hb
    by_cases hlt : k < n
    · obtain ⟨bq, oq, rfl, _, x0, x1, x2, x3⟩ := HC.out k hlt
      obtain ⟨p1, p2, p3, p4, p5, p6⟩ := HQS.out k hlt
      have k0 := (HP1.out.trans hP.out).cell x0 (fun f => f)
      have hqa : (m.quotes[k]?.getD ⟨0, 0, 0, false⟩) = qAt m.quotes k := rfl
      rw [hqa] at k0
      obtain ⟨q, hq⟩ : ∃ q, (qAt m.quotes k).runner = q := ⟨_, rfl⟩
      rw [hq] at k0 p1 p2
      have d1 : decide (q < 0) = false := decide_eq_false (by omega)
      have d2 : decide (R ≤ q) = false := decide_eq_false (by omega)
      have HP := Lib.hid (hP.out.drewN 1)
      clear x0 x1 x2 x3 hqa hq p1 p2 p3 p4 p5 p6
      go_wp2_with fail
      go_quiet (fail)
      go_wp2_with fail
      go_roundw
      case rel => exact ⟨k + 1, by omega, by go_num, Lib.hid (hP.out.drewN _)⟩
      case measure => simp [intOf]; omega
    · obtain ⟨w2, rfl⟩ : ∃ z : World, z = wr := ⟨_, rfl⟩
      have HP2 := Lib.hid (HP1.out.trans hP.out)
      have K2 := Lib.hid (hP.out.heap K0.out (fun f => f))
      clear hP
      go_wp2_with fail
      clear c0 c1
      go_loopw [4] (fun i wr => ∃ k : Nat, k ≤ n ∧ i = .int .i64 k ∧ Hid (Pure w2 wr)) (fun i _ => n - (intOf i).toNat)
      case atStart => exact ⟨0, Nat.zero_le _, rfl, Lib.hid (Only.refl _ _)⟩
      case round =>
        obtain ⟨k, hk, rfl, hP⟩ := hrel
        have hb := hP.out.heap K2.out (fun f => f)
        have c0 : wr.cell? ⟨w.heap.size, 0, none⟩ = some (.int .i64 R) := cell_of_row _ _ 0 _ _ _ hb
        have c1 : wr.cell? ⟨w.heap.size, 1, none⟩ = some (.slice ad n cp) := cell_of_row _ _ 1 _ _ _ hb
        clear hb
        by_cases hlt : k < n
        · obtain ⟨bq, oq, rfl, _, x0, x1, x2, x3⟩ := HC.out k hlt
          obtain ⟨p1, p2, p3, p4, p5, p6⟩ := HQS.out k hlt
          have hPP := HP2.out.trans hP.out
          have k0 := hPP.cell x0 (fun f => f)
          have k1 := hPP.cell x1 (fun f => f)
          have k2 := hPP.cell x2 (fun f => f)
          have k3 := hPP.cell x3 (fun f => f)
          have hqa : (m.quotes[k]?.getD ⟨0, 0, 0, false⟩) = qAt m.quotes k := rfl
          rw [hqa] at k0 k1 k2 k3
          obtain ⟨q, hq⟩ : ∃ q, qAt m.quotes k = q := ⟨_, rfl⟩
          rw [hq] at k0 k1 k2 k3 p3 p4 p5 p6
          obtain ⟨qr, qn, qd, ql⟩ := q
          dsimp only at k0 k1 k2 k3 p3 p4 p5 p6
          have d1 : decide (qn < 0) = false := decide_eq_false (by omega)
          have d2 : decide (190 < qn) = false := decide_eq_false (by omega)
          have d3 : decide (qd < 1) = false := decide_eq_false (by omega)
          have d4 : decide (10 < qd) = false := decide_eq_false (by omega)
          clear x0 x1 x2 x3 hqa hq p1 p2 p3 p4 p5 p6 hPP
          go_wp2_with fail
          go_roundw
          case rel => exact ⟨k + 1, by omega, by go_num, Lib.hid (hP.out.alloc _)⟩
          case measure => simp [intOf]; omega
        · go_wp2_with fail
          go_ret
          exact ⟨rfl, HP2.out.trans hP.out⟩
set_option maxHeartbeats 2000000 in
set_option maxRecDepth 100000 in
theorem refStaked_any (D D' : Nat → Prop) (v u : Value) (m : Market) (st : List Int) (w : World) (hq : Quotes D w v m.quotes) (hs : Ints D' w u st) (hm : checkMarket m = 0) (hl : st.length = m.quotes.length) (hb : ∀ i, i < st.length → 0 ≤ sAt st i ∧ sAt st i ≤ 1099511627776) :
    Calls Try.prog 87 #[.agg #[.int .i64 m.runners, v], u] w fun e w' => e = .returned (.int .i64 0) ∧ Pure w w' := by
  have hP1 : Pure w (w.alloc (.cells #[.int .i64 m.runners, v] 29)) := (Only.refl _ w).alloc _
  have k0 := World.alloc_heap_new w (.cells #[.int .i64 m.runners, v] 29)
  have hmk := refMarket_any D v m _ (hq.pure hP1) hm
  have hs1 := hs.pure hP1
  obtain ⟨ad, n, cp, rfl, hlen, hlc, hmax, hc⟩ := hq
  obtain ⟨sa, n', cs, rfl, hlen', hlc', hmax', hc'⟩ := hs1
  obtain rfl : n' = n := by omega
  rw [← hlen'] at hb
  obtain ⟨R, hR⟩ : ∃ R, m.runners = R := ⟨_, rfl⟩
  rw [hR] at hP1 k0 hmk hc' ⊢
  obtain ⟨w1, hw1⟩ : ∃ x, x = w.alloc (.cells #[.int .i64 R, .slice ad n' cp] 29) := ⟨_, rfl⟩
  rw [← hw1] at hP1 k0 hmk hc'
  have c0 : w1.cell? ⟨w.heap.size, 0, none⟩ = some (.int .i64 R) := cell_of_row _ _ 0 _ _ _ k0
  have c1 : w1.cell? ⟨w.heap.size, 1, none⟩ = some (.slice ad n' cp) := cell_of_row _ _ 1 _ _ _ k0
  have HW1 := Lib.hid hw1; have HC := Lib.hid hc'; have HP1 := Lib.hid hP1; have K0 := Lib.hid k0; have HB := Lib.hid hb; have HMK := Lib.hid hmk
  clear hw1 hc hc' hP1 k0 hR hm hlen hlen' hb hmk hs hl
  go_enter Try.func87, Try.ntmps87
  go_upto_region 1 with fail
  rw [← HW1.out]
  go_wp2_with fail
  refine HMK.out.mono ?_
  rintro e w2 ⟨rfl, P2⟩
  have hb := P2.heap K0.out (fun f => f)
  have d0 : w2.cell? ⟨w.heap.size, 0, none⟩ = some (.int .i64 R) := cell_of_row _ _ 0 _ _ _ hb
  have d1 : w2.cell? ⟨w.heap.size, 1, none⟩ = some (.slice ad n' cp) := cell_of_row _ _ 1 _ _ _ hb
  have HP2 := Lib.hid P2
  clear hb P2 c0 c1 HMK
  go_wp2_with fail
  clear d0 d1
  go_loopw [5] (fun i wr => ∃ k : Nat, k ≤ n' ∧ i = .int .i64 k ∧ Hid (Pure w1 wr)) (fun i _ => n' - (intOf i).toNat)
  case atStart => exact ⟨0, Nat.zero_le _, rfl, HP2⟩
  case round =>
    obtain ⟨k, hk, rfl, hP⟩ := hrel
    by_cases hlt : k < n'
    · obtain ⟨bq, oq, rfl, _, x0⟩ := HC.out k hlt
      obtain ⟨p1, p2⟩ := HB.out k hlt
      have k0 := hP.out.cell x0 (fun f => f)
      have hqa : st[k]?.getD 0 = sAt st k := rfl
      rw [hqa] at k0
      obtain ⟨q, hq⟩ : ∃ q, sAt st k = q := ⟨_, rfl⟩
      rw [hq] at k0 p1 p2
      have d1 : decide (q < 0) = false := decide_eq_false (by omega)
      have d2 : decide (1099511627776 < q) = false := decide_eq_false (by omega)
      clear x0 hqa hq p1 p2
      go_wp2_with fail
      go_roundw
      case rel => exact ⟨k + 1, by omega, by go_num, hP⟩
      case measure => simp [intOf]; omega
    · go_wp2_with fail
      go_ret
      exact ⟨rfl, HP1.out.trans hP.out⟩
end Go.Proofs.Ythnjfekkngpbjaa

/- The document's net of stakes. -/
namespace Go.Proofs.Ythnjfekkngpbjaa
open Go.RowKit

set_option maxHeartbeats 2000000 in
set_option maxRecDepth 100000 in
theorem refNet_any (D D' : Nat → Prop) (v u : Value) (m : Market) (st : List Int) (r : Int) (w : World) (hq : Quotes D w v m.quotes) (hs : Ints D' w u st) (hm : checkMarket m = 0) (hl : st.length = m.quotes.length) :
    Calls Try.prog 88 #[.agg #[.int .i64 m.runners, v], u, .int .i64 r] w fun e w' => e = .returned (.int .i64 (netOf m st r)) ∧ Pure w w' := by
  obtain ⟨r1, r5, l12, hqs⟩ := market_zero hm
  have hP1 : Pure w (w.alloc (.cells #[.int .i64 m.runners, v] 29)) := (Only.refl _ w).alloc _
  have k0 := World.alloc_heap_new w (.cells #[.int .i64 m.runners, v] 29)
  obtain ⟨ad, n, cp, rfl, hlen, hlc, hmax, hc⟩ := hq
  obtain ⟨sa, n', cs, rfl, hlen', hlc', hmax', hc'⟩ := hs
  obtain rfl : n' = n := by omega
  have hfin : netOf m st r = netTo m st r n' := by unfold netOf; rw [hlen]
  rw [hfin]
  rw [← hlen] at hqs l12
  obtain ⟨R, hR⟩ : ∃ R, m.runners = R := ⟨_, rfl⟩
  rw [hR] at hP1 k0 ⊢
  obtain ⟨w1, hw1⟩ : ∃ x, x = w.alloc (.cells #[.int .i64 R, .slice ad n' cp] 29) := ⟨_, rfl⟩
  rw [← hw1] at hP1 k0
  have HW1 := Lib.hid hw1; have HP1 := Lib.hid hP1; have K0 := Lib.hid k0
  have HC := Lib.hid hc; have HC' := Lib.hid hc'; have HQS := Lib.hid hqs
  clear hc hc' hqs hfin hlen hlen' hl hm hw1 hP1 k0 r1 r5
  go_enter Try.func88, Try.ntmps88
  go_upto_region 1 with fail
  rw [← HW1.out]
  go_wp2_with fail
  go_loopw [7, 8] (fun acc i wr => ∃ k : Nat, k ≤ n' ∧ acc = .int .i64 (netTo m st r k) ∧ i = .int .i64 k ∧ Hid (Pure w1 wr)) (fun _ i _ => n' - (intOf i).toNat)
  case atStart => exact ⟨0, Nat.zero_le _, rfl, rfl, Lib.hid (Only.refl _ _)⟩
  case round =>
    obtain ⟨k, hk, rfl, rfl, hP⟩ := hrel
    by_cases hlt : k < n'
    · obtain ⟨bq, oq, rfl, _, x0, x1, x2, x3⟩ := HC.out k hlt
      obtain ⟨bs, os, rfl, _, y0⟩ := HC'.out k hlt
      obtain ⟨p1, p2, p3, p4, p5, p6⟩ := HQS.out k hlt
      have hs := netTo_succ m st r k
      have c1 : wr.cell? ⟨w.heap.size, 1, none⟩ = some (.slice (some ⟨bq, oq, none⟩) n' cp) := cell_of_row _ _ 1 _ _ _ (hP.out.heap K0.out (fun f => f))
      have hPP := HP1.out.trans hP.out
      have k0 := hPP.cell x0 (fun f => f)
      have k1 := hPP.cell x1 (fun f => f)
      have k2 := hPP.cell x2 (fun f => f)
      have k3 := hPP.cell x3 (fun f => f)
      have z0 := hPP.cell y0 (fun f => f)
      have hqa : (m.quotes[k]?.getD ⟨0, 0, 0, false⟩) = qAt m.quotes k := rfl
      have hsa : st[k]?.getD 0 = sAt st k := rfl
      rw [hqa] at k0 k1 k2 k3
      rw [hsa] at z0
      obtain ⟨q, hq⟩ : ∃ q, qAt m.quotes k = q := ⟨_, rfl⟩
      obtain ⟨s, hss⟩ : ∃ s, sAt st k = s := ⟨_, rfl⟩
      obtain ⟨acc, hacc⟩ : ∃ s, netTo m st r k = s := ⟨_, rfl⟩
      rw [hq] at k0 k1 k2 k3 hs p5
      rw [hss] at z0 hs
      rw [hacc] at hs ⊢
      obtain ⟨qr, qn, qd, ql⟩ := q
      dsimp only at k0 k1 k2 k3 p5
      have hd0 : qd ≠ 0 := by omega
      obtain ⟨T1, hT1⟩ : ∃ x, wrap64 ((2520 : Int).tdiv qd) = x := ⟨_, rfl⟩
      obtain ⟨T2, hT2⟩ : ∃ x, wrap64 (T1 * qn) = x := ⟨_, rfl⟩
      obtain ⟨T3, hT3⟩ : ∃ x, wrap64 (T2 * s) = x := ⟨_, rfl⟩
      obtain ⟨U, hU⟩ : ∃ x, wrap64 (-2520 * s) = x := ⟨_, rfl⟩
      unfold wonOf at hs
      dsimp only at hs
      rw [hT1, hT2, hT3, hU] at hs
      have HS := Lib.hid hs
      obtain ⟨w5, hw5⟩ : ∃ x, x = wr.alloc (.cells #[.int .i64 qr, .int .i64 qn, .int .i64 qd, .bool ql] 83) := ⟨_, rfl⟩
      have P5 : Pure wr w5 := by rw [hw5]; exact (Only.refl _ wr).alloc _
      have r6 : w5.heap[wr.heap.size]? = some (.cells #[.int .i64 qr, .int .i64 qn, .int .i64 qd, .bool ql] 83) := by rw [hw5]; exact World.alloc_heap_new wr _
      have z1 := P5.cell z0 (fun f => f)
      have m0 : w5.cell? ⟨wr.heap.size, 0, none⟩ = some (.int .i64 qr) := cell_of_row _ _ 0 _ _ _ r6
      have m1 : w5.cell? ⟨wr.heap.size, 1, none⟩ = some (.int .i64 qn) := cell_of_row _ _ 1 _ _ _ r6
      have m2 : w5.cell? ⟨wr.heap.size, 2, none⟩ = some (.int .i64 qd) := cell_of_row _ _ 2 _ _ _ r6
      have m3 : w5.cell? ⟨wr.heap.size, 3, none⟩ = some (.bool ql) := cell_of_row _ _ 3 _ _ _ r6
      have HW5 := Lib.hid hw5; have HP5 := Lib.hid (hP.out.trans P5)
      clear hw5 P5 r6 hs x0 x1 x2 x3 y0 hqa hsa hq hss hacc p1 p2 p3 p4 p5 p6 hP hPP
      go_upto_region 6 with fail
      rw [← HW5.out]
      by_cases hr : qr = r
      · subst hr
        cases ql
        · go_wp2_with fail
          go_quiet (fail)
          go_wp2_with fail
          go_roundw
          case rel => exact ⟨k + 1, by omega, by rw [HS.out]; simp, by go_num, Lib.hid (HP5.out.drewN _)⟩
          case measure => simp [intOf]; omega
        · go_wp2_with fail
          go_quiet (fail)
          go_wp2_with fail
          go_roundw
          case rel => exact ⟨k + 1, by omega, by rw [HS.out]; simp, by go_num, Lib.hid (HP5.out.drewN _)⟩
          case measure => simp [intOf]; omega
      · have hrb : (qr == r) = false := by simpa using hr
        cases ql
        · go_wp2_with fail
          go_roundw
          case rel => exact ⟨k + 1, by omega, by rw [HS.out]; simp [hr], by go_num, HP5⟩
          case measure => simp [intOf]; omega
        · go_wp2_with fail
          go_roundw
          case rel => exact ⟨k + 1, by omega, by rw [HS.out]; simp [hr], by go_num, HP5⟩
          case measure => simp [intOf]; omega
    · obtain rfl : n' = k := by omega
      have c1 : wr.cell? ⟨w.heap.size, 1, none⟩ = some (.slice ad n' cp) := cell_of_row _ _ 1 _ _ _ (hP.out.heap K0.out (fun f => f))
      go_wp2_with fail
      go_ret
      exact ⟨rfl, HP1.out.trans hP.out⟩
end Go.Proofs.Ythnjfekkngpbjaa

/- The document's check of stakes, and of chances: where all is right. -/
namespace Go.Proofs.Ythnjfekkngpbjaa
open Go.RowKit

set_option maxHeartbeats 2000000 in
set_option maxRecDepth 100000 in
theorem refStakes_any (D D' : Nat → Prop) (v u : Value) (m : Market) (st : List Int) (w : World) (hq : Quotes D w v m.quotes) (hs : Ints D' w u st) (hm : checkMarket m = 0) (hl : st.length = m.quotes.length) (hb : ∀ i, i < st.length → 0 ≤ sAt st i ∧ sAt st i ≤ 1099511627776)
    (hpos : ∀ r : Nat, (r : Int) < m.runners → 0 < netOf m st r) :
    Calls Try.prog 73 #[.agg #[.int .i64 m.runners, v], u] w fun e w' => e = .returned (.int .i64 0) ∧ Pure w w' := by
  obtain ⟨r1, r5, l12, _⟩ := market_zero hm
  have hP1 : Pure w (w.alloc (.cells #[.int .i64 m.runners, v] 29)) := (Only.refl _ w).alloc _
  have k0 := World.alloc_heap_new w (.cells #[.int .i64 m.runners, v] 29)
  have hmk := refStaked_any D D' v u m st _ (hq.pure hP1) (hs.pure hP1) hm hl hb
  have hnt := fun W (hW : Pure w W) r => refNet_any D D' v u m st r W (hq.pure hW) (hs.pure hW) hm hl
  obtain ⟨ad, n, cp, rfl⟩ : ∃ a n c, v = .slice a n c := by obtain ⟨a, n, c, rfl, _⟩ := hq; exact ⟨a, n, c, rfl⟩
  obtain ⟨sa, n', cs, rfl⟩ := hs.form
  obtain ⟨R, hR⟩ : ∃ R : Nat, m.runners = R := ⟨m.runners.toNat, by omega⟩
  have r5' : R ≤ 5 := by omega
  rw [hR] at hP1 k0 hmk hnt hpos ⊢
  obtain ⟨w1, hw1⟩ : ∃ x, x = w.alloc (.cells #[.int .i64 (R : Int), .slice ad n cp] 29) := ⟨_, rfl⟩
  rw [← hw1] at hP1 k0 hmk
  have c0 : w1.cell? ⟨w.heap.size, 0, none⟩ = some (.int .i64 (R : Int)) := cell_of_row _ _ 0 _ _ _ k0
  have c1 : w1.cell? ⟨w.heap.size, 1, none⟩ = some (.slice ad n cp) := cell_of_row _ _ 1 _ _ _ k0
  have HW1 := Lib.hid hw1; have HP1 := Lib.hid hP1; have K0 := Lib.hid k0; have HMK := Lib.hid hmk; have HNT := Lib.hid hnt; have HPOS := Lib.hid hpos
  clear hw1 hP1 k0 hmk hnt hpos hR hm hl hb hq hs r1 r5 l12
  go_enter Try.func73, Try.ntmps73
  go_upto_region 1 with fail
  rw [← HW1.out]
  go_wp2_with fail
  refine HMK.out.mono ?_
  rintro e w2 ⟨rfl, P2⟩
  have HP2 := Lib.hid P2
  clear P2 c0 c1 HMK
  go_wp2_with fail
  go_loopw [5] (fun i wr => ∃ k : Nat, k ≤ R ∧ i = .int .i64 k ∧ Hid (Pure w1 wr)) (fun i _ => R - (intOf i).toNat)
  case atStart => exact ⟨0, Nat.zero_le _, rfl, HP2⟩
  case round =>
    obtain ⟨k, hk, rfl, hP⟩ := hrel
    have hb := hP.out.heap K0.out (fun f => f)
    have c0 : wr.cell? ⟨w.heap.size, 0, none⟩ = some (.int .i64 (R : Int)) := cell_of_row _ _ 0 _ _ _ hb
    have c1 : wr.cell? ⟨w.heap.size, 1, none⟩ = some (.slice ad n cp) := cell_of_row _ _ 1 _ _ _ hb
    clear hb
    by_cases hlt : k < R
    · have HK := Lib.hid hlt
      have hnt := HNT.out wr (HP1.out.trans hP.out) k
      have hp := HPOS.out k (by omega)
      obtain ⟨N, hN⟩ : ∃ N, netOf m st k = N := ⟨_, rfl⟩
      rw [hN] at hp
      simp only [hN] at hnt
      have d1 : decide (N ≤ 0) = false := decide_eq_false (by omega)
      have HN := Lib.hid hnt
      clear hnt hp hN
      go_wp2_with fail
      refine HN.out.mono ?_
      rintro e w3 ⟨rfl, P3⟩
      have HP3 := Lib.hid (hP.out.trans P3)
      clear P3 c0 c1
      go_wp2_with fail
      go_roundw
      case rel => exact ⟨k + 1, HK.out, by go_num, HP3⟩
      case measure => have := HK.out; simp [intOf]; omega
    · go_wp2_with fail
      go_ret
      exact ⟨rfl, HP1.out.trans hP.out⟩

def fairQ (ch : List Int) (q : Quote) : Prop := (q.lay = false → wrap64 (sAt ch q.runner.toNat * wrap64 (q.den + q.num)) ≤ wrap64 (sumW ch * q.den)) ∧ (q.lay = true → wrap64 (sumW ch * q.den) ≤ wrap64 (sAt ch q.runner.toNat * wrap64 (q.den + q.num)))

set_option maxHeartbeats 2000000 in
set_option maxRecDepth 100000 in
theorem refChances_any (D D' : Nat → Prop) (v u : Value) (m : Market) (ch : List Int) (w : World) (hq : Quotes D w v m.quotes) (hs : Ints D' w u ch) (hm : checkMarket m = 0) (hl : (ch.length : Int) = m.runners) (hb : ∀ i, i < ch.length → 0 ≤ sAt ch i ∧ sAt ch i ≤ 1099511627776)
    (hsum : 1 ≤ sumW ch ∧ sumW ch ≤ 1099511627776) (hf : ∀ i, i < m.quotes.length → fairQ ch (qAt m.quotes i)) :
    Calls Try.prog 74 #[.agg #[.int .i64 m.runners, v], u] w fun e w' => e = .returned (.int .i64 0) ∧ Pure w w' := by
  obtain ⟨r1, r5, l12, hqs⟩ := market_zero hm
  have hP1 : Pure w (w.alloc (.cells #[.int .i64 m.runners, v] 29)) := (Only.refl _ w).alloc _
  have k0 := World.alloc_heap_new w (.cells #[.int .i64 m.runners, v] 29)
  have hmk := refMarket_any D v m _ (hq.pure hP1) hm
  have hs1 := hs.pure hP1
  obtain ⟨ad, n, cp, rfl, hlen, hlc, hmax, hc⟩ := hq.pure hP1
  obtain ⟨sa, R, cs, rfl, hlen', hlc', hmax', hc'⟩ := hs1
  have hR : m.runners = R := by rw [hlen']; exact hl.symm
  rw [← hlen'] at hb
  rw [← hlen] at hf hqs
  rw [hR] at hP1 k0 hmk hc' hc hqs ⊢
  obtain ⟨w1, hw1⟩ : ∃ x, x = w.alloc (.cells #[.int .i64 (R : Int), .slice ad n cp] 29) := ⟨_, rfl⟩
  rw [← hw1] at hP1 k0 hmk hc' hc
  have c0 : w1.cell? ⟨w.heap.size, 0, none⟩ = some (.int .i64 (R : Int)) := cell_of_row _ _ 0 _ _ _ k0
  have c1 : w1.cell? ⟨w.heap.size, 1, none⟩ = some (.slice ad n cp) := cell_of_row _ _ 1 _ _ _ k0
  have HSUM := Lib.hid (fun k (h : k < R) => sumW_take ch k (by rw [← hlen']; exact h))
  have hall : sumW (ch.take R) = sumW ch := by rw [List.take_of_length_le (by omega)]
  have HALL := Lib.hid hall; have HS := Lib.hid hsum
  have HW1 := Lib.hid hw1; have HC := Lib.hid hc; have HC' := Lib.hid hc'; have HP1 := Lib.hid hP1; have K0 := Lib.hid k0; have HB := Lib.hid hb; have HMK := Lib.hid hmk; have HF := Lib.hid hf; have HQS := Lib.hid hqs
  clear hw1 hc hc' hP1 k0 hR hm hlen hlen' hb hmk hs hl hq hf hqs hsum hall r1 r5 l12
  go_enter Try.func74, Try.ntmps74
  go_upto_region 1 with fail
  rw [← HW1.out]
  go_wp2_with fail
  refine HMK.out.mono ?_
  rintro e w2 ⟨rfl, P2⟩
  have hb := P2.heap K0.out (fun f => f)
  have d0 : w2.cell? ⟨w.heap.size, 0, none⟩ = some (.int .i64 (R : Int)) := cell_of_row _ _ 0 _ _ _ hb
  have HP2 := Lib.hid P2
  clear hb P2 c0 c1 HMK
  go_wp2_with fail
  clear d0
  go_loopw [5, 6] (fun s i wr => ∃ k : Nat, k ≤ R ∧ s = .int .i64 (sumW (ch.take k)) ∧ i = .int .i64 k ∧ Hid (Pure w1 wr)) (fun _ i _ => R - (intOf i).toNat)
  case atStart => exact ⟨0, Nat.zero_le _, rfl, rfl, HP2⟩
  case round =>
    obtain ⟨k, hk, rfl, rfl, hP⟩ := hrel
    by_cases hlt : k < R
    · obtain ⟨bq, oq, rfl, _, x0⟩ := HC'.out k hlt
      obtain ⟨p1, p2⟩ := HB.out k hlt
      have hst := HSUM.out k hlt
      have k0 := hP.out.cell x0 (fun f => f)
      have hqa : ch[k]?.getD 0 = sAt ch k := rfl
      rw [hqa] at k0
      obtain ⟨q, hq⟩ : ∃ q, sAt ch k = q := ⟨_, rfl⟩
      rw [hq] at k0 p1 p2 hst
      obtain ⟨a, ha⟩ : ∃ q, sumW (ch.take k) = q := ⟨_, rfl⟩
      rw [ha] at hst ⊢
      have d1 : decide (q < 0) = false := decide_eq_false (by omega)
      have d2 : decide (1099511627776 < q) = false := decide_eq_false (by omega)
      have HST := Lib.hid hst
      clear x0 hqa hq p1 p2 ha hst
      go_wp2_with fail
      go_roundw
      case rel => exact ⟨k + 1, by omega, by rw [HST.out], by go_num, hP⟩
      case measure => simp [intOf]; omega
    · obtain rfl : R = k := by omega
      rw [HALL.out]
      obtain ⟨S, hS⟩ : ∃ S, sumW ch = S := ⟨_, rfl⟩
      obtain ⟨s1, s2⟩ := HS.out
      rw [hS] at s1 s2 ⊢
      have d1 : decide (S < 1) = false := decide_eq_false (by omega)
      have d2 : decide (1099511627776 < S) = false := decide_eq_false (by omega)
      have HSS := Lib.hid hS
      obtain ⟨w3, rfl⟩ : ∃ z : World, z = wr := ⟨_, rfl⟩
      clear hS s1 s2
      go_wp2_with fail
      go_loopw [7] (fun i wr => ∃ k : Nat, k ≤ n ∧ i = .int .i64 k ∧ Hid (Pure w1 wr)) (fun i _ => n - (intOf i).toNat)
      case atStart => exact ⟨0, Nat.zero_le _, rfl, hP⟩
      case round =>
        clear hP
        obtain ⟨k, hk, rfl, hP⟩ := hrel
        have hb := hP.out.heap K0.out (fun f => f)
        have c1 : wr.cell? ⟨w.heap.size, 1, none⟩ = some (.slice ad n cp) := cell_of_row _ _ 1 _ _ _ hb
        clear hb
        by_cases hlt : k < n
        · obtain ⟨bq, oq, rfl, _, x0, x1, x2, x3⟩ := HC.out k hlt
          obtain ⟨p1, p2, p3, p4, p5, p6⟩ := HQS.out k hlt
          have hf := HF.out k hlt
          have k0 := hP.out.cell x0 (fun f => f)
          have k1 := hP.out.cell x1 (fun f => f)
          have k2 := hP.out.cell x2 (fun f => f)
          have k3 := hP.out.cell x3 (fun f => f)
          have hqa : (m.quotes[k]?.getD ⟨0, 0, 0, false⟩) = qAt m.quotes k := rfl
          rw [hqa] at k0 k1 k2 k3
          obtain ⟨q, hq⟩ : ∃ q, qAt m.quotes k = q := ⟨_, rfl⟩
          rw [hq] at k0 k1 k2 k3 p1 p2 hf
          obtain ⟨qr, qn, qd, ql⟩ := q
          unfold fairQ at hf
          dsimp only at k0 k1 k2 k3 p1 p2 hf
          obtain ⟨i, rfl⟩ : ∃ i : Nat, qr = i := ⟨qr.toNat, by omega⟩
          have hi : i < R := by omega
          rw [Int.toNat_natCast] at hf
          obtain ⟨bs, os, rfl, _, y0⟩ := HC'.out i hi
          have z0 := hP.out.cell y0 (fun f => f)
          have hsa : ch[i]?.getD 0 = sAt ch i := rfl
          rw [hsa] at z0
          obtain ⟨T1, hT1⟩ : ∃ x, wrap64 (qd + qn) = x := ⟨_, rfl⟩
          obtain ⟨ci, hci⟩ : ∃ x, sAt ch i = x := ⟨_, rfl⟩
          rw [hci] at z0 hf
          rw [hT1, HSS.out] at hf
          obtain ⟨T2, hT2⟩ : ∃ x, wrap64 (ci * T1) = x := ⟨_, rfl⟩
          obtain ⟨T3, hT3⟩ : ∃ x, wrap64 (S * qd) = x := ⟨_, rfl⟩
          rw [hT2, hT3] at hf
          obtain ⟨w5, hw5⟩ : ∃ x, x = wr.alloc (.cells #[.int .i64 i, .int .i64 qn, .int .i64 qd, .bool ql] 83) := ⟨_, rfl⟩
          have P5 : Pure wr w5 := by rw [hw5]; exact (Only.refl _ wr).alloc _
          have r6 : w5.heap[wr.heap.size]? = some (.cells #[.int .i64 i, .int .i64 qn, .int .i64 qd, .bool ql] 83) := by rw [hw5]; exact World.alloc_heap_new wr _
          have z1 := P5.cell z0 (fun f => f)
          have m0 : w5.cell? ⟨wr.heap.size, 0, none⟩ = some (.int .i64 (i : Int)) := cell_of_row _ _ 0 _ _ _ r6
          have m1 : w5.cell? ⟨wr.heap.size, 1, none⟩ = some (.int .i64 qn) := cell_of_row _ _ 1 _ _ _ r6
          have m2 : w5.cell? ⟨wr.heap.size, 2, none⟩ = some (.int .i64 qd) := cell_of_row _ _ 2 _ _ _ r6
          have m3 : w5.cell? ⟨wr.heap.size, 3, none⟩ = some (.bool ql) := cell_of_row _ _ 3 _ _ _ r6
          have HW5 := Lib.hid hw5; have HP5 := Lib.hid (hP.out.trans P5)
          clear hw5 P5 r6 x0 x1 x2 x3 y0 hqa hsa hq hci p1 p2 p3 p4 p5 p6 hP
          go_upto_region 18 with fail
          rw [← HW5.out]
          cases ql
          · have h1 := hf.1 rfl
            have d3 : decide (T3 < T2) = false := decide_eq_false (by omega)
            clear hf h1
            go_quiet (fail)
            go_wp2_with fail
            go_roundw
            case rel => exact ⟨k + 1, by omega, by go_num, Lib.hid (HP5.out.drewN _)⟩
            case measure => simp [intOf]; omega
          · have h1 := hf.2 rfl
            have d3 : decide (T2 < T3) = false := decide_eq_false (by omega)
            clear hf h1
            go_quiet (fail)
            go_wp2_with fail
            go_roundw
            case rel => exact ⟨k + 1, by omega, by go_num, Lib.hid (HP5.out.drewN _)⟩
            case measure => simp [intOf]; omega
        · go_wp2_with fail
          go_ret
          exact ⟨rfl, HP1.out.trans hP.out⟩
end Go.Proofs.Ythnjfekkngpbjaa

