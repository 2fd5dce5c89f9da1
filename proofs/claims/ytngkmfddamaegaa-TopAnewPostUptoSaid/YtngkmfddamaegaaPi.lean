/-
  The exported functions of package post, one by one.
-/
import Derived.Test.YtngkmfddamaegaaPh
namespace Go.Proofs.Ytngkmfddamaegaa
open Go.RowKit

set_option maxHeartbeats 1000000 in
set_option maxRecDepth 100000 in
/-- open: the desk of a pool and a runner, if they and the dividend are right. -/
theorem open_any (D : Nat → Prop) (v : Value) (p : Pool) (runner dividend : Int) (w : World) (hv : PoolAt D w v p) :
    Calls Try.prog 49 #[v, .int .i64 runner, .int .i64 dividend] w fun e w' => Pure w w' ∧
      ((checkW p runner dividend ≠ 0 ∧ e = .returned (.tuple #[.pointer none, .int .i64 (checkW p runner dividend)])) ∨
       (checkW p runner dividend = 0 ∧ ∃ b, e = .returned (.tuple #[.pointer (some ⟨b, 0, none⟩), .int .i64 0]) ∧ Desk b p runner.toNat w')) := by
  have hC0 := hv
  obtain ⟨tk, rfl, hr⟩ := hv
  obtain ⟨a, len, cap, rfl, hlen, _, hm, _⟩ := hr
  have B0 : Box5 w.heap.size (.slice a len cap) p (w.alloc (Obj.cells #[.slice a len cap, .int .i64 p.per, .int .i64 p.pence, .int .i64 p.keep, .int .i64 p.step] 24)) := by simp [Box5]
  have hP0 : Pure w (w.alloc (Obj.cells #[.slice a len cap, .int .i64 p.per, .int .i64 p.pence, .int .i64 p.keep, .int .i64 p.step] 24)) := (Only.refl _ w).alloc _
  have hC := check_any D _ p runner dividend _ (hC0.pure hP0)
  have HP0 := Lib.hid hP0; have HL := Lib.hid hlen; have HV := Lib.hid hC0
  clear hP0 hlen hC0
  go_enter Try.func49, Try.ntmps49
  go_wp2_with fail
  refine hC.mono ?_
  rintro e w1 ⟨rfl, P1⟩
  have B1 := B0.pure P1
  have Q1 := Lib.hid (HP0.out.trans P1)
  obtain ⟨d10, d11, d12, d13, d14⟩ := B1
  clear hC B0 P1
  obtain ⟨ce, hce⟩ : ∃ x, checkW p runner dividend = x := ⟨_, rfl⟩
  have HC := Lib.hid hce
  rw [hce]
  clear hce
  by_cases h0 : ce = 0
  · subst h0
    obtain ⟨hc, hr0, hr1, hd0, hd1⟩ := checkW_of HC.out
    obtain ⟨v2, v8, vp, vs1, vs2, vsum⟩ := valid_of hc
    have hN := newDesk_any D _ p runner w1 (HV.out.pure Q1.out) vp v8
    have HX := Lib.hid (And.intro hr0 (And.intro v8 (And.intro vsum hr1)))
    clear hc hr0 hr1 hd0 hd1 v2 v8 vp vs1 vs2 vsum
    go_wp2_with fail
    refine hN.mono ?_
    rintro e w2 ⟨b, rfl, hb, hD, P2⟩
    have Q2 := Lib.hid (Q1.out.trans P2)
    have HD := Lib.hid hD
    clear hb hD P2 hN
    go_wp2
    go_ret2
    refine ⟨Q2.out, .inr ⟨HC.out, b, rfl, ?_⟩⟩
    obtain ⟨hr0, v8, vsum, hr1⟩ := HX.out
    refine ⟨⟨w1.heap.size, a, cap, ?_⟩, v8, by omega, vsum⟩
    have h := HD.out
    rw [HL.out] at h
    rw [Int.toNat_of_nonneg hr0]; exact h
  · go_wp2
    go_ret2
    exact ⟨Q1.out, .inl ⟨by rw [HC.out]; exact h0, by rw [HC.out]; rfl⟩⟩

theorem sum_grow {D : Nat → Prop} {v : Value} {l : List Int} {w : World} {g : Growth} (hv : Ints D w v l) :
    Calls Try.prog 47 #[v] (grow w g) fun e w'' => e = .returned (.int .i64 (sumW l)) ∧ ∃ g', w'' = grow w g' :=
  calls_grow ((sum_any D v l _ (hv.pure (grow_pure w g))).mono fun _ _ ⟨he, hw⟩ => ⟨he, hw ▸ Only.refl _ _⟩)

/-! ### Net -/
def netR (p : Pool) (truth : List Int) : Int × Int :=
  if checkPool p ≠ 0 then (0, checkPool p) else if checkTruthW p truth ≠ 0 then (0, checkTruthW p truth) else (netW p (sumW truth), 0)

set_option maxHeartbeats 1000000 in
set_option maxRecDepth 100000 in
theorem Net_any (D D' : Nat → Prop) (v tv : Value) (p : Pool) (truth : List Int) (w : World) (hv : PoolAt D w v p) (ht : Ints D' w tv truth) :
    Calls Try.prog 11 #[v, tv] w fun e w' => e = .returned (.tuple #[.int .i64 (netR p truth).1, .int .i64 (netR p truth).2]) ∧ Pure w w' := by
  have hC0 := hv
  obtain ⟨tk, rfl, hr⟩ := hv
  obtain ⟨a, len, cap, rfl, hlen, _, hm, _⟩ := hr
  have B0 : Box5 w.heap.size (.slice a len cap) p (w.alloc (Obj.cells #[.slice a len cap, .int .i64 p.per, .int .i64 p.pence, .int .i64 p.keep, .int .i64 p.step] 24)) := by simp [Box5]
  have hP0 : Pure w (w.alloc (Obj.cells #[.slice a len cap, .int .i64 p.per, .int .i64 p.pence, .int .i64 p.keep, .int .i64 p.step] 24)) := (Only.refl _ w).alloc _
  have hC := checkPool_any D _ p _ (hC0.pure hP0)
  have HP0 := Lib.hid hP0; have HV := Lib.hid hC0; have HT := Lib.hid ht
  clear hP0 hlen hC0 ht
  go_enter Try.func11, Try.ntmps11
  go_wp2_with fail
  refine hC.mono ?_
  rintro e w1 ⟨rfl, P1⟩
  have B1 := B0.pure P1
  have Q1 := Lib.hid (HP0.out.trans P1)
  clear hC B0 P1
  obtain ⟨d10, d11, d12, d13, d14⟩ := id B1
  obtain ⟨ce, hce⟩ : ∃ x, checkPool p = x := ⟨_, rfl⟩
  have HC := Lib.hid hce
  rw [hce]
  clear hce
  by_cases h0 : ce = 0
  · subst h0
    have hp := Lib.hid (valid_of HC.out).2.2.1
    have hC := checkTruth_any D D' _ _ p truth w1 (HV.out.pure Q1.out) (HT.out.pure Q1.out)
    go_wp2_with fail
    refine hC.mono ?_
    rintro e w2 ⟨rfl, P2⟩
    have B2 := B1.pure P2
    have Q2 := Lib.hid (Q1.out.trans P2)
    clear hC P2 B1 d10 d11 d12 d13 d14
    obtain ⟨d10, d11, d12, d13, d14⟩ := B2
    obtain ⟨ct, hct⟩ : ∃ x, checkTruthW p truth = x := ⟨_, rfl⟩
    have HCT := Lib.hid hct
    rw [hct]
    clear hct
    by_cases h1 : ct = 0
    · subst h1
      have g0 := fun g => grow_cell d10 g; have g1 := fun g => grow_cell d11 g; have g2 := fun g => grow_cell d12 g; have g3 := fun g => grow_cell d13 g; have g4 := fun g => grow_cell d14 g
      have HI := Lib.hid (HT.out.pure Q2.out)
      go_wp2_with fail
      refine wp_region_grow (by kernel_rfl) (by kernel_rfl) ?_
      repeat (go_big_quiet_step (first | exact sum_grow HI.out | exact calls_grow (net_any _ p _ _ hp.out)))
      refine wpQuiet_nil ?_
      rintro w' ⟨g, rfl⟩
      go_wp2
      go_ret2
      exact ⟨by unfold netR; rw [if_neg (by rw [HC.out]; simp), if_neg (by rw [HCT.out]; simp)]; rfl, Q2.out.trans (grow_pure _ _)⟩
    · go_wp2
      go_ret2
      exact ⟨by unfold netR; rw [if_neg (by rw [HC.out]; simp), HCT.out, if_pos h1]; rfl, Q2.out⟩
  · go_wp2
    go_ret2
    exact ⟨by unfold netR; rw [HC.out, if_pos h0]; rfl, Q1.out⟩

/-! ### Left -/
def leftR (p : Pool) (truth : List Int) (runner dividend : Int) : Int × Int :=
  if checkW p runner dividend ≠ 0 then (0, checkW p runner dividend) else if checkTruthW p truth ≠ 0 then (0, checkTruthW p truth) else (wrap64 (netW p (sumW truth) - wrap64 (dividend * truth[runner.toNat]?.getD 0)), 0)

set_option maxHeartbeats 1000000 in
set_option maxRecDepth 100000 in
theorem Left_any (D D' : Nat → Prop) (v tv : Value) (p : Pool) (truth : List Int) (runner dividend : Int) (w : World) (hv : PoolAt D w v p) (ht : Ints D' w tv truth) :
    Calls Try.prog 14 #[v, tv, .int .i64 runner, .int .i64 dividend] w fun e w' => e = .returned (.tuple #[.int .i64 (leftR p truth runner dividend).1, .int .i64 (leftR p truth runner dividend).2]) ∧ Pure w w' := by
  have hC0 := hv
  obtain ⟨tk, rfl, hr⟩ := hv
  obtain ⟨a, len, cap, rfl, hlen, _, hm, _⟩ := hr
  have B0 : Box5 w.heap.size (.slice a len cap) p (w.alloc (Obj.cells #[.slice a len cap, .int .i64 p.per, .int .i64 p.pence, .int .i64 p.keep, .int .i64 p.step] 24)) := by simp [Box5]
  have hP0 : Pure w (w.alloc (Obj.cells #[.slice a len cap, .int .i64 p.per, .int .i64 p.pence, .int .i64 p.keep, .int .i64 p.step] 24)) := (Only.refl _ w).alloc _
  have hC := check_any D _ p runner dividend _ (hC0.pure hP0)
  have HP0 := Lib.hid hP0; have HV := Lib.hid hC0; have HT := Lib.hid ht
  clear hP0 hlen hC0
  obtain ⟨ta, tlen, tcap, rfl, htl, _, htm, htc⟩ := ht
  have HTC := Lib.hid htc; have HTL := Lib.hid htl; clear htc htl
  go_enter Try.func14, Try.ntmps14
  go_wp2_with fail
  refine hC.mono ?_
  rintro e w1 ⟨rfl, P1⟩
  have B1 := B0.pure P1
  have Q1 := Lib.hid (HP0.out.trans P1)
  clear hC B0 P1
  obtain ⟨d10, d11, d12, d13, d14⟩ := id B1
  obtain ⟨ce, hce⟩ : ∃ x, checkW p runner dividend = x := ⟨_, rfl⟩
  have HC := Lib.hid hce
  rw [hce]
  clear hce
  by_cases h0 : ce = 0
  · subst h0
    have hp := Lib.hid (valid_of (checkW_of HC.out).1).2.2.1
    have hC := checkTruth_any D D' _ _ p truth w1 (HV.out.pure Q1.out) (HT.out.pure Q1.out)
    go_wp2_with fail
    refine hC.mono ?_
    rintro e w2 ⟨rfl, P2⟩
    have B2 := B1.pure P2
    have Q2 := Lib.hid (Q1.out.trans P2)
    clear hC P2 B1 d10 d11 d12 d13 d14
    obtain ⟨d10, d11, d12, d13, d14⟩ := B2
    obtain ⟨ct, hct⟩ : ∃ x, checkTruthW p truth = x := ⟨_, rfl⟩
    have HCT := Lib.hid hct
    rw [hct]
    clear hct
    by_cases h1 : ct = 0
    · subst h1
      have hlen : tlen = p.tickets.length := by
        have := HCT.out; unfold checkTruthW at this
        by_cases hl : truth.length = p.tickets.length
        · rw [HTL.out]; exact hl
        · rw [if_pos hl] at this; omega
      obtain ⟨hc0, hr0, hr1, _, _⟩ := checkW_of HC.out
      obtain ⟨r, rfl⟩ := Int.eq_ofNat_of_zero_le hr0
      have hr2 : r < tlen := by omega
      obtain ⟨tb, toff, rfl, _, tcell⟩ := HTC.out r hr2
      have tc2 := Q2.out.cell tcell (fun f => f)
      have g0 := fun g => grow_cell d10 g; have g1 := fun g => grow_cell d11 g; have g2 := fun g => grow_cell d12 g; have g3 := fun g => grow_cell d13 g; have g4 := fun g => grow_cell d14 g
      have g5 := fun g => grow_cell tc2 g
      have HI := Lib.hid (HT.out.pure Q2.out)
      have HR := Lib.hid (show leftR p truth r dividend = (wrap64 (netW p (sumW truth) - wrap64 (dividend * truth[r]?.getD 0)), 0) by unfold leftR; rw [if_neg (by rw [HC.out]; simp), if_neg (by rw [HCT.out]; simp)]; rfl)
      generalize truth[r]?.getD 0 = tr at g5 HR
      clear hc0 hr0 hr1 hlen tcell tc2
      go_wp2_with fail
      refine wp_region_grow (by kernel_rfl) (by kernel_rfl) ?_
      repeat (go_big_quiet_step (first | exact sum_grow HI.out | exact calls_grow (net_any _ p _ _ hp.out)))
      refine wpQuiet_nil ?_
      rintro w' ⟨g, rfl⟩
      go_wp2
      go_ret2
      exact ⟨by rw [HR.out]; rfl, Q2.out.trans (grow_pure _ _)⟩
    · go_wp2
      go_ret2
      exact ⟨by unfold leftR; rw [if_neg (by rw [HC.out]; simp), HCT.out, if_pos h1]; rfl, Q2.out⟩
  · go_wp2
    go_ret2
    exact ⟨by unfold leftR; rw [HC.out, if_pos h0]; rfl, Q1.out⟩

/-! ### CheckRefute -/
def checkRefuteR (p : Pool) (runner dividend : Int) (truth : List Int) : Int :=
  if (leftR p truth runner dividend).2 ≠ 0 then (leftR p truth runner dividend).2 else if 0 ≤ (leftR p truth runner dividend).1 then 14 else 0

set_option maxHeartbeats 1000000 in
set_option maxRecDepth 100000 in
theorem CheckRefute_any (D D' : Nat → Prop) (v tv : Value) (p : Pool) (truth : List Int) (runner dividend : Int) (w : World) (hv : PoolAt D w v p) (ht : Ints D' w tv truth) :
    Calls Try.prog 29 #[v, .int .i64 runner, .int .i64 dividend, tv] w fun e w' => e = .returned (.int .i64 (checkRefuteR p runner dividend truth)) ∧ Pure w w' := by
  have hC0 := hv
  obtain ⟨tk, rfl, hr⟩ := hv
  obtain ⟨a, len, cap, rfl, hlen, _, hm, _⟩ := hr
  have B0 : Box5 w.heap.size (.slice a len cap) p (w.alloc (Obj.cells #[.slice a len cap, .int .i64 p.per, .int .i64 p.pence, .int .i64 p.keep, .int .i64 p.step] 24)) := by simp [Box5]
  have hP0 : Pure w (w.alloc (Obj.cells #[.slice a len cap, .int .i64 p.per, .int .i64 p.pence, .int .i64 p.keep, .int .i64 p.step] 24)) := (Only.refl _ w).alloc _
  have hC := Left_any D D' _ tv p truth runner dividend _ (hC0.pure hP0) (ht.pure hP0)
  have HP0 := Lib.hid hP0
  clear hP0 hlen hC0 ht
  go_enter Try.func29, Try.ntmps29
  go_wp2_with fail
  refine hC.mono ?_
  rintro e w1 ⟨rfl, P1⟩
  have Q1 := Lib.hid (HP0.out.trans P1)
  clear hC B0 P1
  obtain ⟨R, hR⟩ : ∃ x, leftR p truth runner dividend = x := ⟨_, rfl⟩
  have HR := Lib.hid hR
  rw [hR]
  clear hR
  obtain ⟨n, e⟩ := R
  by_cases h0 : e = 0
  · subst h0
    by_cases h1 : 0 ≤ n
    · go_wp2
      go_ret
      exact ⟨by unfold checkRefuteR; rw [HR.out, if_neg (by simp), if_pos h1]; rfl, Q1.out⟩
    · go_wp2
      go_ret
      exact ⟨by unfold checkRefuteR; rw [HR.out, if_neg (by simp), if_neg (by omega)]; rfl, Q1.out⟩
  · go_wp2
    go_ret
    exact ⟨by unfold checkRefuteR; rw [HR.out, if_pos h0]; rfl, Q1.out⟩
end Go.Proofs.Ytngkmfddamaegaa
