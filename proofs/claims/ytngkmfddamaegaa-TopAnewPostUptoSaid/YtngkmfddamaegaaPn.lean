/-
  When.
-/
import Derived.Test.YtngkmfddamaegaaPm
namespace Go.Proofs.Ytngkmfddamaegaa
open Go.RowKit

theorem rules_run (p q : Pool) : ∀ w : World, (Op.equalIn 10000 89 (.agg #[.int .i64 p.per, .int .i64 p.pence, .int .i64 p.keep, .int .i64 p.step, .int .i64 p.tickets.length]) (.agg #[.int .i64 q.per, .int .i64 q.pence, .int .i64 q.keep, .int .i64 q.step, .int .i64 q.tickets.length])).run Try.prog w = .ok (decide (rulesV p = rulesV q)) w := fun w => rules_eq p q w

/-- 'l[1:]' of a slice of pools. -/
theorem tail_run (b off k cap : Nat) (hk : 1 ≤ k) (hc : k ≤ cap) : ∃ ad : Addr, (1 < k → ad = ⟨b, off + 5, none⟩) ∧
    ∀ w : World, (Instr.slice 26 (.slice (some ⟨b, off, none⟩) k cap) (some (.int .i64 1)) none none).run Try.prog w = .ok (.slice (some ad) (k - 1) (cap - 1)) w := by
  have hu : Try.prog.underlying 26 = some (.slice (Try.prog.elem 26)) := by kernel_rfl
  by_cases h1 : cap = 1
  · refine ⟨⟨b, off, none⟩, fun h => by omega, fun w => ?_⟩
    rw [run_slice_l w 26 (some ⟨b, off, none⟩) k cap hu .i64 1 (by omega) (by omega)]
    simp [sliced, h1, go_sem]
  · refine ⟨⟨b, off + 5, none⟩, fun _ => rfl, fun w => ?_⟩
    rw [run_slice_l w 26 (some ⟨b, off, none⟩) k cap hu .i64 1 (by omega) (by omega)]
    simp [sliced, h1, go_sem, Addr.add]

/-- One pool of a slice of pools. -/
theorem PoolsAt.pool {D : Nat → Prop} {w : World} {a : Option Addr} {len cap : Nat} {l : List Pool} (h : PoolsAt D w (.slice a len cap) l) {i : Nat} (hi : i < len) : ∃ b off ta tc, a = some ⟨b, off, none⟩ ∧
    w.cell? ⟨b, off + i * 5, none⟩ = some (.slice ta (poolAt l i).tickets.length tc) ∧
    w.cell? ⟨b, off + i * 5 + 1, none⟩ = some (.int .i64 (poolAt l i).per) ∧ w.cell? ⟨b, off + i * 5 + 2, none⟩ = some (.int .i64 (poolAt l i).pence) ∧ w.cell? ⟨b, off + i * 5 + 3, none⟩ = some (.int .i64 (poolAt l i).keep) ∧
    w.cell? ⟨b, off + i * 5 + 4, none⟩ = some (.int .i64 (poolAt l i).step) ∧
    PoolAt D w (.agg #[.slice ta (poolAt l i).tickets.length tc, .int .i64 (poolAt l i).per, .int .i64 (poolAt l i).pence, .int .i64 (poolAt l i).keep, .int .i64 (poolAt l i).step]) (poolAt l i) := by
  obtain ⟨a', len', cap', hv, hl, hc, hm, h⟩ := h
  simp only [Value.slice.injEq] at hv
  obtain ⟨rfl, rfl, rfl⟩ := hv
  obtain ⟨b, off, tk, ha, hD, c0, c1, c2, c3, c4, hr⟩ := h i hi
  obtain ⟨ta, tn, tc, rfl, rfl, hx⟩ := id hr
  exact ⟨b, off, ta, tc, ha, c0, c1, c2, c3, c4, _, rfl, hr⟩

theorem Ranges.at {D : Nat → Prop} {w : World} {a : Option Addr} {n c : Nat} {l : List (Int × Int)} (h : Ranges D w (.slice a n c) l) {i : Nat} (hi : i < n) : ∃ b off, a = some ⟨b, off, none⟩ ∧
    w.cell? ⟨b, off + i * 2, none⟩ = some (.int .i64 (l[i]?.getD (0, 0)).1) ∧ w.cell? ⟨b, off + i * 2 + 1, none⟩ = some (.int .i64 (l[i]?.getD (0, 0)).2) := by
  obtain ⟨a', len', cap', hv, hl, hc, hm, h⟩ := h
  simp only [Value.slice.injEq] at hv
  obtain ⟨rfl, rfl, rfl⟩ := hv
  obtain ⟨b, off, ha, _, h1, h2⟩ := h i hi
  exact ⟨b, off, ha, h1, h2⟩

set_option maxHeartbeats 4000000 in
set_option maxRecDepth 100000 in
theorem When_any (D : Nat → Prop) (v : Value) (l : List Pool) (runner dividend : Int) (w : World) (hv : PoolsAt D w v l) :
    Calls Try.prog 36 #[v, .int .i64 runner, .int .i64 dividend] w fun e w' => e = .returned (.tuple #[.int .i64 (whenR l runner dividend).1, .int .i64 (whenR l runner dividend).2]) ∧ Pure w w' := by
  obtain ⟨a, len, cap, rfl, hlen, hcap, hm, hc⟩ := id hv
  have HL := Lib.hid hlen; have HV := Lib.hid hv
  clear hlen hv hc
  have P00 : Pure w (w.alloc (.cells #[.int .i64 len] 2)) := (Only.refl _ w).alloc _
  have HP00 := Lib.hid P00
  go_enter Try.func36, Try.ntmps36
  cases hw : withinB 1 20 [(len : Int)] with
  | false =>
    go_wp2_with fail
    refine (within_one _ _ (len : Int) _ _ (by simp)).mono ?_
    rintro e w1 ⟨rfl, P1⟩
    have Q1 := Lib.hid (HP00.out.trans P1)
    rw [hw]
    clear P1 P00
    go_wp2
    go_ret2
    exact ⟨by unfold whenR; rw [← HL.out, if_pos hw]; rfl, Q1.out⟩
  | true =>
    have hlb := (within_iff _ _ _).1 hw
    go_wp2_with fail
    refine (within_one _ _ (len : Int) _ _ (by simp)).mono ?_
    rintro e w1 ⟨rfl, P1⟩
    have Q1 := Lib.hid (HP00.out.trans P1)
    rw [hw]
    clear P1 P00
    have HW := Lib.hid hw; clear hw
    go_wp2_with fail
    go_loopw [27] (fun i wr => ∃ k : Nat, k ≤ len ∧ i = .int .i64 k ∧ (∀ j < k, checkPool (poolAt l j) = 0) ∧ Pure w wr) (fun i _ => len - (intOf i).toNat)
    case atStart => exact ⟨0, Nat.zero_le _, rfl, fun j hj => by omega, Q1.out⟩
    case round =>
      obtain ⟨k, hk, rfl, hok, hP⟩ := hrel
      have HOK := Lib.hid hok; have HP := Lib.hid hP; clear hok hP
      by_cases hlt : k < len
      · obtain ⟨b, off, ta, tc, rfl, c0, c1, c2, c3, c4, hpool⟩ := (HV.out.pure HP.out).pool hlt
        have hP2 := (Only.refl (fun _ => False) wr).alloc (.cells #[.slice ta (poolAt l k).tickets.length tc, .int .i64 (poolAt l k).per, .int .i64 (poolAt l k).pence, .int .i64 (poolAt l k).keep, .int .i64 (poolAt l k).step] 24)
        have hC := checkPool_any D _ _ _ (hpool.pure hP2)
        have HP2 := Lib.hid (HP.out.trans hP2)
        obtain ⟨ce, hce⟩ : ∃ x, checkPool (poolAt l k) = x := ⟨_, rfl⟩
        have HCE := Lib.hid hce
        rw [hce] at hC
        clear hce hP2 hpool
        go_wp2_with fail
        refine hC.mono ?_
        rintro e w3 ⟨rfl, P3⟩
        have Q3 := Lib.hid (HP2.out.trans P3)
        clear P3 hC c0 c1 c2 c3 c4
        by_cases h0 : ce = 0
        · subst h0
          have hok2 := Lib.hid (show ∀ j < k + 1, checkPool (poolAt l j) = 0 from fun j hj => by
            rcases Nat.lt_or_ge j k with h | h
            · exact HOK.out j h
            · obtain rfl : j = k := by omega
              exact HCE.out)
          go_wp2
          go_roundw
          case rel => exact ⟨k + 1, by omega, by go_num, hok2.out, Q3.out⟩
          case measure => simp [intOf]; omega
        · have hF := Lib.hid (show whenR l runner dividend = (0, ce) by
            unfold whenR
            rw [← HL.out, if_neg (by rw [HW.out]; simp), find_range (k := k) hlt (by rw [HCE.out]; simpa using h0) (fun j hj => by rw [HOK.out j hj]; simp)]
            simp only [HCE.out])
          go_wp2
          go_ret2
          exact ⟨by rw [hF.out]; rfl, Q3.out⟩
      · obtain rfl : k = len := by omega
        have HF1 := Lib.hid (show (List.range k).find? (fun i => decide (checkPool (poolAt l i) ≠ 0)) = none from List.find?_eq_none.2 fun x hx => by rw [HOK.out x (List.mem_range.1 hx)]; simp)
        obtain ⟨b, off, ta0, tc0, rfl, z0, z1, z2, z3, z4, hpool0⟩ := (HV.out.pure HP.out).pool (show 0 < k by omega)
        simp only [Nat.zero_mul, Nat.add_zero] at z0 z1 z2 z3 z4
        have HP1 := HP; have Hpool0 := Lib.hid hpool0
        clear hpool0 hk hlt HOK
        have Z := Lib.hid (And.intro z0 (And.intro z1 (And.intro z2 (And.intro z3 z4))))
        clear z0 z1 z2 z3 z4
        generalize wr = wA at HP HP1 Hpool0 Z ⊢
        go_wp2_with fail
        go_loopw [39] (fun i wr => ∃ j : Nat, j ≤ k ∧ i = .int .i64 j ∧ (∀ m < j, rulesV (poolAt l m) = rulesV (poolAt l 0)) ∧ Pure w wr ∧ Pure wA wr) (fun i _ => k - (intOf i).toNat)
        case atStart => exact ⟨0, Nat.zero_le _, rfl, fun j hj => by omega, HP1.out, Only.refl _ _⟩
        case round =>
          obtain ⟨j, hj, rfl, hok, hPw, hPa⟩ := hrel
          have HOK := Lib.hid hok; have HPw := Lib.hid hPw; have HPa := Lib.hid hPa; clear hok hPw hPa
          by_cases hlt : j < k
          · obtain ⟨b', off', ta, tc, he, c0, c1, c2, c3, c4, hpool⟩ := (HV.out.pure HPw.out).pool hlt
            simp only [Option.some.injEq, Addr.mk.injEq, and_true] at he
            obtain ⟨rfl, rfl⟩ := he
            have hP2 := (Only.refl (fun _ => False) wr).alloc (.cells #[.slice ta (poolAt l j).tickets.length tc, .int .i64 (poolAt l j).per, .int .i64 (poolAt l j).pence, .int .i64 (poolAt l j).keep, .int .i64 (poolAt l j).step] 24)
            have hbx := World.alloc_heap_new wr (.cells #[.slice ta (poolAt l j).tickets.length tc, .int .i64 (poolAt l j).per, .int .i64 (poolAt l j).pence, .int .i64 (poolAt l j).keep, .int .i64 (poolAt l j).step] 24)
            have HP2 := Lib.hid hP2
            have HPJ := Lib.hid (hpool.pure hP2)
            have HPZ := Lib.hid ((Hpool0.out.pure HPa.out).pure hP2)
            clear hP2 hpool
            go_wp2_with fail
            generalize hwB : (wr.alloc (.cells #[.slice ta (poolAt l j).tickets.length tc, .int .i64 (poolAt l j).per, .int .i64 (poolAt l j).pence, .int .i64 (poolAt l j).keep, .int .i64 (poolAt l j).step] 24)) = wB at HP2 HPJ HPZ hbx ⊢
            clear hwB c0 c1 c2 c3 c4
            have g0 := fun g => grow_cell (show wB.cell? ⟨wr.heap.size, 0, none⟩ = _ from cell_of_row _ _ _ _ _ _ hbx) g
            have g1 := fun g => grow_cell (show wB.cell? ⟨wr.heap.size, 1, none⟩ = _ from cell_of_row _ _ _ _ _ _ hbx) g
            have g2 := fun g => grow_cell (show wB.cell? ⟨wr.heap.size, 2, none⟩ = _ from cell_of_row _ _ _ _ _ _ hbx) g
            have g3 := fun g => grow_cell (show wB.cell? ⟨wr.heap.size, 3, none⟩ = _ from cell_of_row _ _ _ _ _ _ hbx) g
            have g4 := fun g => grow_cell (show wB.cell? ⟨wr.heap.size, 4, none⟩ = _ from cell_of_row _ _ _ _ _ _ hbx) g
            have y0 := fun g => grow_cell (HP2.out.cell (HPa.out.cell Z.out.1 (fun f => f)) (fun f => f)) g
            have y1 := fun g => grow_cell (HP2.out.cell (HPa.out.cell Z.out.2.1 (fun f => f)) (fun f => f)) g
            have y2 := fun g => grow_cell (HP2.out.cell (HPa.out.cell Z.out.2.2.1 (fun f => f)) (fun f => f)) g
            have y3 := fun g => grow_cell (HP2.out.cell (HPa.out.cell Z.out.2.2.2.1 (fun f => f)) (fun f => f)) g
            have y4 := fun g => grow_cell (HP2.out.cell (HPa.out.cell Z.out.2.2.2.2 (fun f => f)) (fun f => f)) g
            simp at g0 g1 g2 g3 g4
            have hrr := rules_run (poolAt l j) (poolAt l 0)
            have hA := fun g => rulesOf_any D _ (poolAt l j) _ (HPJ.out.pure (grow_pure wB g))
            have hB := fun g => rulesOf_any D _ (poolAt l 0) _ (HPZ.out.pure (grow_pure wB g))
            unfold rulesA at hA hB
            by_cases hru : rulesV (poolAt l j) = rulesV (poolAt l 0)
            · have HRU := Lib.hid hru
              have hd : decide (rulesV (poolAt l j) = rulesV (poolAt l 0)) = true := decide_eq_true hru
              rw [hd] at hrr
              clear hru hd
              refine wp_region_grow (by kernel_rfl) (by kernel_rfl) ?_
              go_big_quiet_step (fail)
              go_big_quiet_step (exact calls_grow (hA _))
              iterate 3 (go_big_quiet_step (fail))
              go_big_quiet_step (exact calls_grow (hB _))
              go_big_quiet_step (fail)
              refine wpQuiet_nil ?_
              rintro w' ⟨g, rfl⟩
              have Q5 := Lib.hid ((HP2.out.trans (grow_pure wB g)))
              have hok2 := Lib.hid (show ∀ m < j + 1, rulesV (poolAt l m) = rulesV (poolAt l 0) from fun m hm => by
                rcases Nat.lt_or_ge m j with h | h
                · exact HOK.out m h
                · obtain rfl : m = j := by omega
                  exact HRU.out)
              clear g0 g1 g2 g3 g4 y0 y1 y2 y3 y4 hrr hA hB hbx
              go_wp2
              go_roundw
              case rel => exact ⟨j + 1, by omega, by go_num, hok2.out, HPw.out.trans Q5.out, HPa.out.trans Q5.out⟩
              case measure => simp [intOf]; omega
            · have HRU := Lib.hid hru
              have hd : decide (rulesV (poolAt l j) = rulesV (poolAt l 0)) = false := decide_eq_false hru
              rw [hd] at hrr
              clear hru hd
              refine wp_region_grow (by kernel_rfl) (by kernel_rfl) ?_
              go_big_quiet_step (fail)
              go_big_quiet_step (exact calls_grow (hA _))
              iterate 3 (go_big_quiet_step (fail))
              go_big_quiet_step (exact calls_grow (hB _))
              go_big_quiet_step (fail)
              refine wpQuiet_nil ?_
              rintro w' ⟨g, rfl⟩
              have Q5 := Lib.hid ((HP2.out.trans (grow_pure wB g)))
              have hF := Lib.hid (show whenR l runner dividend = (0, 15) by
                unfold whenR
                rw [← HL.out, if_neg (by rw [HW.out]; simp), HF1.out]
                simp only
                rw [if_pos (List.any_eq_true.2 ⟨j, List.mem_range.2 hlt, by simpa using HRU.out⟩)])
              clear g0 g1 g2 g3 g4 y0 y1 y2 y3 y4 hrr hA hB hbx
              go_wp2
              go_ret2
              exact ⟨by rw [hF.out]; rfl, HPw.out.trans Q5.out⟩
          · obtain rfl : j = k := by omega
            have HF2 := Lib.hid (show (List.range j).any (fun i => decide (rulesV (poolAt l i) ≠ rulesV (poolAt l 0))) = false from by
              rw [List.any_eq_false]; intro x hx; rw [HOK.out x (List.mem_range.1 hx)]; simp)
            have HRV := Lib.hid (show ∀ m < j, (poolAt l m).tickets.length = (poolAt l 0).tickets.length from fun m hm => by
              have := HOK.out m hm
              simp only [rulesV, List.cons.injEq, and_true] at this
              omega)
            clear hj hlt HOK
            generalize wr = wC at HPw HPa ⊢
            obtain ⟨ad, had, hsl⟩ := tail_run b off j cap (by omega) hcap
            have HAD := Lib.hid had
            clear had
            go_wp2_with fail
            go_loopw [54] (fun i wr => ∃ i0 : Nat, i0 ≤ j - 1 ∧ i = .int .i64 i0 ∧ (∀ m < i0, ∀ n < (poolAt l (m + 1)).tickets.length, narrowAt l m n = true) ∧ Pure w wr ∧ Pure wC wr) (fun i _ => (j - 1) - (intOf i).toNat)
            case atStart => exact ⟨0, Nat.zero_le _, rfl, fun m hm => by omega, HPw.out, Only.refl _ _⟩
            case round =>
              obtain ⟨i0, hi0, rfl, hok, hPw2, hPc⟩ := hrel
              have HOK := Lib.hid hok; have HPw2 := Lib.hid hPw2; have HPc := Lib.hid hPc; clear hok hPw2 hPc
              by_cases hlt : i0 < j - 1
              · obtain rfl := HAD.out (by omega)
                obtain ⟨b1, off1, ta, tc, he, c0, c1, c2, c3, c4, hpool⟩ := (HV.out.pure HPw2.out).pool (show i0 + 1 < j by omega)
                simp only [Option.some.injEq, Addr.mk.injEq, and_true] at he
                obtain ⟨rfl, rfl⟩ := he
                rw [show off + (i0 + 1) * 5 = off + 5 + i0 * 5 by omega] at c0 c1 c2 c3 c4
                obtain ⟨b2, off2, ta2, tc2, he, x0, _, _, _, _, hpool2⟩ := (HV.out.pure HPw2.out).pool (show i0 < j by omega)
                simp only [Option.some.injEq, Addr.mk.injEq, and_true] at he
                obtain ⟨rfl, rfl⟩ := he
                obtain ⟨_, he, hR1⟩ := hpool
                simp only [Value.agg.injEq, Array.mk.injEq, List.cons.injEq, and_true] at he
                obtain rfl := he
                obtain ⟨_, he, hR2⟩ := hpool2
                simp only [Value.agg.injEq, Array.mk.injEq, List.cons.injEq, and_true] at he
                obtain rfl := he
                have htl : (poolAt l i0).tickets.length = (poolAt l (i0 + 1)).tickets.length := by rw [HRV.out i0 (by omega), HRV.out (i0 + 1) (by omega)]
                rw [htl] at x0 hR2
                have HR1 := Lib.hid hR1; have HR2 := Lib.hid hR2; have HX0 := Lib.hid x0; have HTL := Lib.hid htl
                clear hR1 hR2 x0 htl
                have hn64 : (poolAt l (i0 + 1)).tickets.length ≤ 9223372036854775807 := by
                  obtain ⟨_, _, _, he, _, _, h64, _⟩ := HR1.out
                  simp only [Value.slice.injEq] at he
                  omega
                obtain ⟨n1, hn1⟩ : ∃ n, (poolAt l (i0 + 1)).tickets.length = n := ⟨_, rfl⟩
                have HN1 := Lib.hid hn1
                rw [hn1] at c0 hn64
                have HP3 := Lib.hid ((Only.refl (fun _ => False) wr).alloc (.cells #[.slice ta n1 tc, .int .i64 (poolAt l (i0 + 1)).per, .int .i64 (poolAt l (i0 + 1)).pence, .int .i64 (poolAt l (i0 + 1)).keep, .int .i64 (poolAt l (i0 + 1)).step] 24))
                have HPwD := Lib.hid (HPw2.out.trans HP3.out)
                have HPcD := Lib.hid (HPc.out.trans HP3.out)
                have HR1D := Lib.hid (HR1.out.pure HP3.out)
                have HR2D := Lib.hid (HR2.out.pure HP3.out)
                have HX0D := Lib.hid (HP3.out.cell HX0.out (fun f => f))
                rw [hn1] at HR1D HR2D HX0D
                clear hn1 HR1 HR2 HX0
                go_wp2_with fail
                generalize hwD : (wr.alloc (.cells #[.slice ta n1 tc, .int .i64 (poolAt l (i0 + 1)).per, .int .i64 (poolAt l (i0 + 1)).pence, .int .i64 (poolAt l (i0 + 1)).keep, .int .i64 (poolAt l (i0 + 1)).step] 24)) = wD at HP3 HPwD HPcD HR1D HR2D HX0D ⊢
                clear hwD c0 c1 c2 c3 c4
                generalize wr.heap.size = rb
                go_loopw [62] (fun i w6 => ∃ n : Nat, n ≤ n1 ∧ i = .int .i64 n ∧ (∀ m < n, narrowAt l i0 m = true) ∧ Pure wD w6) (fun i _ => n1 - (intOf i).toNat)
                case atStart => exact ⟨0, Nat.zero_le _, rfl, fun m hm => by omega, Only.refl _ _⟩
                case round =>
                  obtain ⟨n, hn, rfl, hok, hP⟩ := hrel
                  have HNK := Lib.hid hok; have HP6 := Lib.hid hP; clear hok hP
                  by_cases hnl : n < n1
                  · obtain ⟨tb, toff, rfl, r0, r1⟩ := (HR1D.out.pure HP6.out).at hnl
                    obtain ⟨ub, uoff, rfl, s0, s1⟩ := (HR2D.out.pure HP6.out).at hnl
                    have xx := HP6.out.cell HX0D.out (fun f => f)
                    have HNA := Lib.hid (show narrowAt l i0 n = withinB ((poolAt l i0).tickets[n]?.getD (0, 0)).1 ((poolAt l i0).tickets[n]?.getD (0, 0)).2 [((poolAt l (i0 + 1)).tickets[n]?.getD (0, 0)).1, ((poolAt l (i0 + 1)).tickets[n]?.getD (0, 0)).2] from rfl)
                    generalize (poolAt l i0).tickets[n]?.getD (0, 0) = ru at s0 s1 HNA
                    generalize (poolAt l (i0 + 1)).tickets[n]?.getD (0, 0) = rt at r0 r1 HNA
                    obtain ⟨rlo, rhi⟩ := rt
                    obtain ⟨ulo, uhi⟩ := ru
                    have HP7 := Lib.hid ((Only.refl (fun _ => False) wr).alloc (.cells #[.int .i64 rlo, .int .i64 rhi] 50))
                    have hbx := World.alloc_heap_new wr (.cells #[.int .i64 rlo, .int .i64 rhi] 50)
                    have y0 := HP7.out.cell xx (fun f => f)
                    have y1 := HP7.out.cell s0 (fun f => f)
                    have y2 := HP7.out.cell s1 (fun f => f)
                    clear xx s0 s1
                    go_wp2_with fail
                    clear r0 r1
                    generalize hwE : (wr.alloc (.cells #[.int .i64 rlo, .int .i64 rhi] 50)) = wE at HP7 hbx y0 y1 y2 ⊢
                    clear hwE
                    generalize wr.heap.size = rb2 at hbx ⊢
                    have g0 := fun g => grow_cell (show wE.cell? ⟨rb2, 0, none⟩ = some (.int .i64 rlo) from cell_of_row _ _ _ _ _ _ hbx) g
                    have g1 := fun g => grow_cell (show wE.cell? ⟨rb2, 1, none⟩ = some (.int .i64 rhi) from cell_of_row _ _ _ _ _ _ hbx) g
                    have g2 := fun g => grow_cell y0 g
                    have g3 := fun g => grow_cell y1 g
                    have g4 := fun g => grow_cell y2 g
                    clear y0 y1 y2 hbx
                    refine mixed_start (by kernel_rfl) ?_
                    refine mixed_take [0, 1, 2, 3, 4, 5, 6, 7, 8, 9, 10, 11, 12, 13, 14, 15, 16, 17, 18, 19, 20, 21] (by kernel_rfl) (Only.refl _ _).drew (fun d _ _ _ _ h => by cases d <;> exact h) 3 (by kernel_rfl) ?_
                    simp only [picks, List.drop_succ_cons, List.drop_zero, List.take_succ_cons, List.take_zero, List.cons_append, List.nil_append]
                    repeat (go_big_quiet_step (fail))
                    refine wpQuiet_nil ?_
                    refine mixed_force (i := 22) (by kernel_rfl) rfl ?_
                    go_wp2_with fail
                    refine ⟨(Only.refl _ _).drew.alloc _, ?_⟩
                    refine mixed_force (i := 23) (by kernel_rfl) rfl ?_
                    go_wp2_with fail
                    refine (within_two ulo uhi rlo rhi _ _ ?_ ?_).mono ?_
                    · simp
                    · simp
                    rintro e w5 ⟨rfl, P5⟩
                    have P6 := Lib.hid (((Only.refl (fun _ => False) wE).drew.alloc (.cells #[.int .i64 rlo, .int .i64 rhi] 2)).trans P5)
                    clear P5
                    cases hwi : withinB ulo uhi [rlo, rhi] with
                    | true =>
                      rw [hwi] at HNA
                      have hok2 := Lib.hid (show ∀ m < n + 1, narrowAt l i0 m = true from fun m hm => by
                        rcases Nat.lt_or_ge m n with h | h
                        · exact HNK.out m h
                        · obtain rfl : m = n := by omega
                          exact HNA.out)
                      go_wp2_with fail
                      refine ⟨P6.out, ?_⟩
                      refine mixed_force (i := 24) (by kernel_rfl) rfl ?_
                      go_wp2_with fail
                      refine ⟨P6.out, wpAnyG_done (by kernel_rfl) ?_⟩
                      clear g0 g1 g2 g3 g4
                      go_wp2
                      go_roundw
                      case rel => exact ⟨n + 1, by omega, by go_num, hok2.out, (HP6.out.trans HP7.out).trans P6.out⟩
                      case measure => simp [intOf]; omega
                    | false =>
                      rw [hwi] at HNA
                      have hF := Lib.hid (show whenR l runner dividend = (0, 16) by
                        unfold whenR
                        rw [← HL.out, if_neg (by rw [HW.out]; simp), HF1.out]
                        simp only
                        rw [if_neg (by rw [HF2.out]; simp), if_pos (show wideB l = true from List.any_eq_true.2 ⟨i0, List.mem_range.2 (by rw [← HL.out]; exact hlt), List.any_eq_true.2 ⟨n, List.mem_range.2 (by rw [HN1.out]; exact hnl), by rw [HNA.out]; rfl⟩⟩)])
                      go_wp2_with fail
                      refine ⟨P6.out, ?_⟩
                      refine mixed_force (i := 24) (by kernel_rfl) rfl ?_
                      go_wp2_with fail
                      refine ⟨P6.out, wpAnyG_done (by kernel_rfl) ?_⟩
                      clear g0 g1 g2 g3 g4
                      go_wp2
                      go_ret2
                      exact ⟨by rw [hF.out]; rfl, ((HPwD.out.trans HP6.out).trans HP7.out).trans P6.out⟩
                  · obtain rfl : n = n1 := by omega
                    have hok2 := Lib.hid (show ∀ m < i0 + 1, ∀ q < (poolAt l (m + 1)).tickets.length, narrowAt l m q = true from fun m hm q hq => by
                      rcases Nat.lt_or_ge m i0 with h | h
                      · exact HOK.out m h q hq
                      · obtain rfl : m = i0 := by omega
                        exact HNK.out q (by rw [HN1.out] at hq; exact hq))
                    go_wp2
                    go_roundw
                    case rel => exact ⟨i0 + 1, by omega, by go_num, hok2.out, HPwD.out.trans HP6.out, HPcD.out.trans HP6.out⟩
                    case measure => simp [intOf]; omega
              · have HF3 := Lib.hid (show wideB l = false from by
                  unfold wideB
                  rw [List.any_eq_false]
                  intro m hm
                  have hm' := List.mem_range.1 hm
                  rw [← HL.out] at hm'
                  rw [Bool.not_eq_true, List.any_eq_false]
                  intro q hq
                  rw [HOK.out m (by omega) q (List.mem_range.1 hq)]; simp)
                have z0 := HPc.out.cell (HPa.out.cell Z.out.1 (fun f => f)) (fun f => f)
                have z1 := HPc.out.cell (HPa.out.cell Z.out.2.1 (fun f => f)) (fun f => f)
                have z2 := HPc.out.cell (HPa.out.cell Z.out.2.2.1 (fun f => f)) (fun f => f)
                have z3 := HPc.out.cell (HPa.out.cell Z.out.2.2.2.1 (fun f => f)) (fun f => f)
                have z4 := HPc.out.cell (HPa.out.cell Z.out.2.2.2.2 (fun f => f)) (fun f => f)
                have hC := check_any D _ _ runner dividend _ (Hpool0.out.pure (HPa.out.trans HPc.out))
                obtain ⟨ce, hce⟩ : ∃ x, checkW (poolAt l 0) runner dividend = x := ⟨_, rfl⟩
                have HCE := Lib.hid hce
                rw [hce] at hC
                obtain rfl : i0 = j - 1 := by omega
                clear hce hi0 hlt HOK
                go_wp2_with fail
                refine hC.mono ?_
                rintro e w4 ⟨rfl, P4⟩
                have Q4 := Lib.hid (HPw2.out.trans P4)
                clear hC P4 z0 z1 z2 z3 z4
                by_cases h0 : ce = 0
                · subst h0
                  obtain ⟨hc0, hr0, hr1, hd0, hd1⟩ := checkW_of HCE.out
                  obtain ⟨r, rfl⟩ := Int.eq_ofNat_of_zero_le hr0
                  have HRT := Lib.hid (show r < (poolAt l 0).tickets.length by omega)
                  clear hc0 hr0 hr1 hd0 hd1
                  go_wp2_with fail
                  go_loopw [105] (fun i wr => ∃ q : Nat, q ≤ j ∧ i = .int .i64 q ∧ (∀ m < q, worstLeft (poolAt l m) r dividend < 0) ∧ Pure w wr) (fun i _ => j - (intOf i).toNat)
                  case atStart => exact ⟨0, Nat.zero_le _, rfl, fun m hm => by omega, Q4.out⟩
                  case round =>
                    obtain ⟨q, hq, rfl, hok, hPq⟩ := hrel
                    have HQK := Lib.hid hok; have HPq := Lib.hid hPq; clear hok hPq
                    by_cases hql : q < j
                    · obtain ⟨b1, off1, ta, tc, he, c0, c1, c2, c3, c4, hpool⟩ := (HV.out.pure HPq.out).pool hql
                      simp only [Option.some.injEq, Addr.mk.injEq, and_true] at he
                      obtain ⟨rfl, rfl⟩ := he
                      have hP2 := (Only.refl (fun _ => False) wr).alloc (.cells #[.slice ta (poolAt l q).tickets.length tc, .int .i64 (poolAt l q).per, .int .i64 (poolAt l q).pence, .int .i64 (poolAt l q).keep, .int .i64 (poolAt l q).step] 24)
                      have hvalid := valid_of (show checkPool (poolAt l q) = 0 from by
                        have h1 := List.find?_eq_none.1 HF1.out q (List.mem_range.2 hql)
                        simpa using h1)
                      have HVL := Lib.hid hvalid
                      have hN := newDesk_any D _ (poolAt l q) r _ (hpool.pure hP2) hvalid.2.2.1 hvalid.2.1
                      have HP2 := Lib.hid (HPq.out.trans hP2)
                      clear hvalid hP2 hpool
                      go_wp2_with fail
                      refine hN.mono ?_
                      rintro e w7 ⟨bd, rfl, hbd, hD, P7⟩
                      have Q7 := Lib.hid (HP2.out.trans P7)
                      have hDk : Desk bd (poolAt l q) r w7 := ⟨⟨_, _, _, hD⟩, HVL.out.2.1, by have := HRV.out q hql; have := HRT.out; have := HVL.out.2.1; omega, HVL.out.2.2.2.2.2⟩
                      have hS := safe_any hDk dividend
                      clear hN hD P7 hDk hbd c0 c1 c2 c3 c4
                      go_wp2_with fail
                      refine hS.mono ?_
                      rintro e w8 ⟨rfl, P8⟩
                      have Q8 := Lib.hid (Q7.out.trans P8)
                      clear hS P8
                      by_cases hs : 0 ≤ worstLeft (poolAt l q) r dividend
                      · have hs' : decide (0 ≤ worstLeft (poolAt l q) r dividend) = true := decide_eq_true hs
                        rw [hs']
                        have hF := Lib.hid (show whenR l r dividend = ((q : Int), 0) by
                          unfold whenR
                          rw [← HL.out, if_neg (by rw [HW.out]; simp), HF1.out]
                          simp only
                          rw [if_neg (by rw [HF2.out]; simp), if_neg (by rw [HF3.out]; simp), if_neg (by rw [HCE.out]; simp), find_range (k := q) hql (by simpa using hs) (fun m hm => by have := HQK.out m hm; simpa using this)])
                        clear hs hs'
                        go_wp2
                        go_ret2
                        exact ⟨by rw [hF.out]; rfl, Q8.out⟩
                      · have hs' : decide (0 ≤ worstLeft (poolAt l q) r dividend) = false := decide_eq_false hs
                        rw [hs']
                        have hok2 := Lib.hid (show ∀ m < q + 1, worstLeft (poolAt l m) r dividend < 0 from fun m hm => by
                          rcases Nat.lt_or_ge m q with h | h
                          · exact HQK.out m h
                          · obtain rfl : m = q := by omega
                            omega)
                        clear hs hs'
                        go_wp2
                        go_roundw
                        case rel => exact ⟨q + 1, by omega, by go_num, hok2.out, Q8.out⟩
                        case measure => simp [intOf]; omega
                    · obtain rfl : q = j := by omega
                      have hF := Lib.hid (show whenR l r dividend = (0, 12) by
                        unfold whenR
                        rw [← HL.out, if_neg (by rw [HW.out]; simp), HF1.out]
                        simp only
                        rw [if_neg (by rw [HF2.out]; simp), if_neg (by rw [HF3.out]; simp), if_neg (by rw [HCE.out]; simp), List.find?_eq_none.2 (fun m hm => by have := HQK.out m (List.mem_range.1 hm); simpa using this)])
                      go_wp2
                      go_ret2
                      exact ⟨by rw [hF.out]; rfl, HPq.out⟩
                · have hF := Lib.hid (show whenR l runner dividend = (0, ce) by
                    unfold whenR
                    rw [← HL.out, if_neg (by rw [HW.out]; simp), HF1.out]
                    simp only
                    rw [if_neg (by rw [HF2.out]; simp), if_neg (by rw [HF3.out]; simp), HCE.out, if_pos h0])
                  go_wp2
                  go_ret2
                  exact ⟨by rw [hF.out]; rfl, Q4.out⟩
end Go.Proofs.Ytngkmfddamaegaa
