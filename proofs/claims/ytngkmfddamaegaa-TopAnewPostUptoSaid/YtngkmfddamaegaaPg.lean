/-
  Checks of a pool with a runner, a dividend, a truth; the desk of a valid pool.
-/
import Derived.Test.YtngkmfddamaegaaPf
namespace Go.Proofs.Ytngkmfddamaegaa
open Go.RowKit

theorem foldSum_bd : ∀ (l : List Int) (a n : Int), (∀ x ∈ l, 0 ≤ x ∧ x ≤ 200) → 0 ≤ a → a ≤ n → n + 200 * (l.length : Int) ≤ 1000000 →
    0 ≤ l.foldl (fun a x => wrap64 (a + x)) a ∧ l.foldl (fun a x => wrap64 (a + x)) a ≤ n + 200 * (l.length : Int)
  | [], a, n, _, h0, h1, _ => ⟨h0, by simpa using h1⟩
  | x :: l, a, n, hl, h0, h1, h2 => by
    have hx := hl x List.mem_cons_self
    rw [List.length_cons] at h2 ⊢
    have hw : wrap64 (a + x) = a + x := by unfold wrap64; omega
    have := foldSum_bd l (a + x) (n + 200) (fun y hy => hl y (List.mem_cons_of_mem _ hy)) (by omega) (by omega) (by omega)
    rw [List.foldl_cons, hw]
    omega

theorem within_iff (lo hi x : Int) : withinB lo hi [x] = true ↔ lo ≤ x ∧ x ≤ hi := by
  simp only [withinB, outB, List.any_cons, List.any_nil, Bool.or_false, Bool.not_eq_true', Bool.or_eq_false_iff, decide_eq_false_iff_not]; omega

/-- What a valid pool is. -/
theorem valid_of {p : Pool} (h : checkPool p = 0) : 2 ≤ p.tickets.length ∧ p.tickets.length ≤ 8 ∧ 1 ≤ p.per ∧ 1 ≤ p.step ∧ p.step ≤ 100 ∧ sumW (his p) < 9223372036854775807 := by
  unfold checkPool at h
  by_cases h1 : withinB 2 8 [(p.tickets.length : Int)] = true
  · rw [if_neg (by rw [h1]; simp)] at h
    by_cases h2 : wrongRules p = true
    · rw [if_pos h2] at h; omega
    · rw [if_neg h2] at h
      by_cases h3 : p.tickets.any badR = true
      · rw [if_pos h3] at h; omega
      · have hl := (within_iff _ _ _).1 h1
        unfold wrongRules at h2
        simp only [Bool.or_eq_true, Bool.not_eq_true', not_or, Bool.not_eq_false] at h2
        have hp := (within_iff _ _ _).1 h2.1
        have hs := (within_iff _ _ _).1 h2.2.2.2
        refine ⟨by omega, by omega, hp.1, hs.1, hs.2, ?_⟩
        have hr : ∀ r ∈ p.tickets, 0 ≤ r.2 ∧ r.2 ≤ 200 := fun r hr => by
          have hb : badR r = false := by
            cases hb : badR r with
            | false => rfl
            | true => exact absurd (List.any_eq_true.2 ⟨r, hr, hb⟩) h3
          unfold badR at hb
          simp only [Bool.or_eq_false_iff, Bool.not_eq_false', withinB, outB, List.any_cons, List.any_nil, Bool.or_false, Bool.not_eq_true', decide_eq_false_iff_not] at hb
          omega
        have := foldSum_bd (his p) 0 0 (fun x hx => by
          unfold his pad8 at hx
          rcases List.mem_append.1 hx with hx | hx
          · obtain ⟨r, hr', rfl⟩ := List.mem_map.1 hx; exact hr r hr'
          · rw [List.eq_of_mem_replicate hx]; omega) (by omega) (by omega) (by rw [show (his p).length = 8 from pad8_len (by simp; omega)]; omega)
        have hlen : (his p).length = 8 := pad8_len (by simp; omega)
        rw [hlen] at this
        unfold sumW
        omega
  · rw [if_pos (by simpa using h1)] at h; omega

def checkW (p : Pool) (runner dividend : Int) : Int :=
  if checkPool p ≠ 0 then checkPool p else if runner < 0 ∨ (p.tickets.length : Int) ≤ runner then 2 else if withinB 0 100000 [dividend] = false then 3 else if dividend.tmod p.step ≠ 0 then 3 else 0
theorem checkW_of {p : Pool} {runner dividend : Int} (h : checkW p runner dividend = 0) : checkPool p = 0 ∧ 0 ≤ runner ∧ runner < p.tickets.length ∧ 0 ≤ dividend ∧ dividend ≤ 100000 := by
  unfold checkW at h
  by_cases h1 : checkPool p = 0
  · rw [if_neg (by simpa using h1)] at h
    by_cases h2 : runner < 0 ∨ (p.tickets.length : Int) ≤ runner
    · rw [if_pos h2] at h; omega
    · rw [if_neg h2] at h
      cases h3 : withinB 0 100000 [dividend] with
      | false => rw [if_pos h3] at h; omega
      | true => have := (within_iff _ _ _).1 h3; exact ⟨h1, by omega, by omega, this⟩
  · rw [if_pos h1] at h; exact absurd h h1

set_option maxHeartbeats 1000000 in
set_option maxRecDepth 100000 in
theorem check_any (D : Nat → Prop) (v : Value) (p : Pool) (runner dividend : Int) (w : World) (hv : PoolAt D w v p) :
    Calls Try.prog 48 #[v, .int .i64 runner, .int .i64 dividend] w fun e w' => e = .returned (.int .i64 (checkW p runner dividend)) ∧ Pure w w' := by
  have hC0 := hv
  have hval := @valid_of p
  obtain ⟨tk, rfl, hr⟩ := hv
  obtain ⟨a, len, cap, rfl, hlen, _, hm, _⟩ := hr
  have B0 : Box5 w.heap.size (.slice a len cap) p (w.alloc (Obj.cells #[.slice a len cap, .int .i64 p.per, .int .i64 p.pence, .int .i64 p.keep, .int .i64 p.step] 24)) := by simp [Box5]
  have hP0 : Pure w (w.alloc (Obj.cells #[.slice a len cap, .int .i64 p.per, .int .i64 p.pence, .int .i64 p.keep, .int .i64 p.step] 24)) := (Only.refl _ w).alloc _
  have hC := checkPool_any D _ p _ (hC0.pure hP0)
  have HV := Lib.hid hval
  have HL := Lib.hid hlen; have HP0 := Lib.hid hP0
  clear hC0 hval hP0 hlen
  go_enter Try.func48, Try.ntmps48
  go_wp2_with fail
  refine hC.mono ?_
  rintro e w1 ⟨rfl, P1⟩
  have B1 := B0.pure P1
  have Q1 := Lib.hid (HP0.out.trans P1)
  obtain ⟨d10, d11, d12, d13, d14⟩ := B1
  obtain ⟨ce, hce⟩ : ∃ x, checkPool p = x := ⟨_, rfl⟩
  have HC := Lib.hid hce
  rw [hce]
  clear hce P1 B0 hC
  by_cases h0 : ce = 0
  · subst h0
    obtain ⟨hl2, hl8, hp1, hs1, hs2, _⟩ := HV.out HC.out
    rw [← HL.out] at hl2 hl8
    by_cases hr0 : runner < 0
    · go_wp2
      go_ret
      exact ⟨by unfold checkW; rw [if_neg (by simpa using HC.out), if_pos (.inl hr0)]; rfl, Q1.out⟩
    · by_cases hr1 : (len : Int) ≤ runner
      · go_wp2
        go_ret
        exact ⟨by unfold checkW; rw [if_neg (by simpa using HC.out), if_pos (.inr (by rw [← HL.out]; exact hr1))]; rfl, Q1.out⟩
      · have hne : p.step ≠ 0 := by omega
        cases h3 : withinB 0 100000 [dividend] with
        | false =>
          go_wp2_with fail
          refine (within_one _ _ dividend _ _ (by simp)).mono ?_
          rintro e w2 ⟨rfl, P2⟩
          rw [h3]
          have Q2 := Lib.hid (Q1.out.trans P2.of_alloc)
          clear P2
          go_wp2
          go_ret
          exact ⟨by unfold checkW; rw [if_neg (by simpa using HC.out), if_neg (by rw [← HL.out]; omega), if_pos h3]; rfl, Q2.out⟩
        | true =>
          go_wp2_with fail
          refine (within_one _ _ dividend _ _ (by simp)).mono ?_
          rintro e w2 ⟨rfl, P2⟩
          rw [h3]
          have Q2 := Lib.hid (Q1.out.trans P2.of_alloc)
          have e4 := P2.of_alloc.cell d14 (fun f => f)
          have e0 := P2.of_alloc.cell d10 (fun f => f)
          clear P2
          by_cases hm0 : dividend.tmod p.step = 0
          · go_wp2
            go_ret
            exact ⟨by unfold checkW; rw [if_neg (by simpa using HC.out), if_neg (by rw [← HL.out]; omega), if_neg (by rw [h3]; simp), if_neg (by simpa using hm0)]; rfl, Q2.out⟩
          · go_wp2
            go_ret
            exact ⟨by unfold checkW; rw [if_neg (by simpa using HC.out), if_neg (by rw [← HL.out]; omega), if_neg (by rw [h3]; simp), if_pos hm0]; rfl, Q2.out⟩
  · go_wp2
    go_ret
    exact ⟨by unfold checkW; rw [HC.out, if_pos h0]; rfl, Q1.out⟩
end Go.Proofs.Ytngkmfddamaegaa
