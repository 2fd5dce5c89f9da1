/-
  Whether minutes are a plan.
-/
import Derived.Test.YtbiffhekbnmffaaCd
import Derived.Test.YtbiffhekbnmffaaArr
namespace Go.Proofs.Ytbiffhekbnmffaa
open Go.RowKit

theorem within1 {lo hi x : Int} : withinB lo hi [x] = true ↔ lo ≤ x ∧ x ≤ hi := by
  simp only [withinB, outB, List.any_cons, List.any_nil, Bool.or_false, Bool.not_eq_true', Bool.or_eq_false_iff, decide_eq_false_iff_not]; omega

/-- What a valid hall is. -/
theorem valid_of {h : Hall} (hc : checkHall h = 0) : 1 ≤ h.minutes ∧ h.minutes ≤ 60 ∧ h.people.length ≤ 30 ∧ ∀ i, i < h.people.length → 1 ≤ (pAt h.people i).lo ∧ (pAt h.people i).lo ≤ (pAt h.people i).hi ∧ (pAt h.people i).hi ≤ h.minutes ∧ 1 ≤ (pAt h.people i).til ∧ (pAt h.people i).til ≤ h.minutes := by
  unfold checkHall at hc
  by_cases h1 : withinB 1 60 [h.minutes] = true
  · rw [if_neg (by rw [h1]; simp)] at hc
    by_cases h2 : 30 < h.people.length
    · rw [if_pos h2] at hc; omega
    · rw [if_neg h2] at hc
      by_cases h3 : h.people.any (oddP h.minutes) = true
      · rw [if_pos h3] at hc; omega
      · refine ⟨(within1.1 h1).1, (within1.1 h1).2, by omega, fun i hi => ?_⟩
        have hb : oddP h.minutes (pAt h.people i) = false := by
          cases hb : oddP h.minutes (pAt h.people i) with
          | false => rfl
          | true => exact absurd (List.any_eq_true.2 ⟨_, List.mem_of_getElem? (pAt_get _ _ hi), hb⟩) h3
        simp only [oddP, withinB, outB, List.any_cons, List.any_nil, Bool.or_false, Bool.or_eq_false_iff, Bool.not_eq_false', Bool.not_eq_true', decide_eq_false_iff_not] at hb
        omega
  · rw [if_pos (by simpa using h1)] at hc; omega
theorem staffed_of {h : Hall} {k : Int} (hc : staffedE h k = 0) : checkHall h = 0 ∧ 0 ≤ k ∧ k ≤ 30 := by
  unfold staffedE at hc
  by_cases h1 : checkHall h = 0
  · rw [if_neg (by simpa using h1)] at hc
    by_cases h2 : withinB 0 30 [k] = true
    · exact ⟨h1, within1.1 h2⟩
    · rw [if_pos (by simpa using h2)] at hc; omega
  · rw [if_pos h1] at hc; exact absurd hc h1
theorem window_bd {m : Int} {p : Person} (h : 1 ≤ p.lo ∧ p.lo ≤ p.hi ∧ p.hi ≤ m ∧ 1 ≤ p.til ∧ p.til ≤ m) : 0 ≤ (windowP p).1 ∧ (windowP p).2 ≤ m ∧ (windowP p).1 ≤ (windowP p).2 := by
  unfold windowP
  split
  · simp; omega
  · simp only; omega

def maxTo (l : List Int) (k : Nat) : Int := (l.take k).tail.foldl max (l[0]?.getD 0)
theorem maxTo_succ (l : List Int) (k : Nat) (h : k < l.length) (hk : 1 ≤ k) : maxTo l (k + 1) = max (maxTo l k) (l[k]?.getD 0) := by
  unfold maxTo
  rw [List.take_add_one, List.getElem?_eq_getElem h]
  have : (l.take k ++ (some l[k]).toList).tail = (l.take k).tail ++ [l[k]] := by
    rw [List.tail_append_of_ne_nil (by intro e; have := congrArg List.length e; simp at this; rcases this with h' | h' <;> simp [h'] at h <;> omega)]; rfl
  rw [this, List.foldl_append]; rfl
theorem maxTo_all (l : List Int) (k : Nat) (h : l.length ≤ k) : maxTo l k = maxOf l := by unfold maxTo maxOf; rw [List.take_of_length_le h]

set_option maxHeartbeats 1000000 in
set_option maxRecDepth 100000 in
theorem max_any (D : Nat → Prop) (v : Value) (l : List Int) (w : World) (hv : Ints D w v l) (h1 : 1 ≤ l.length) :
    Calls Try.prog 41 #[v] w fun e w' => e = .returned (.int .i64 (maxOf l)) ∧ Pure w w' := by
  obtain ⟨a, len, cap, rfl, hlen, _, hm, hc⟩ := hv
  obtain ⟨b, off, rfl, _, h0⟩ := hc 0 (by omega)
  rw [← hlen] at h1
  rw [Nat.add_zero] at h0
  have HL := Lib.hid hlen; have HC := Lib.hid hc
  clear hlen hc
  go_enter Try.func41, Try.ntmps41
  go_wp2
  go_loopw [4, 3] (fun i n wr => ∃ k : Nat, 1 ≤ k ∧ k ≤ len ∧ i = .int .i64 k ∧ n = .int .i64 (maxTo l k) ∧ Pure w wr) (fun i _ _ => len - (intOf i).toNat)
  case atStart => exact ⟨1, Nat.le_refl _, h1, rfl, by unfold maxTo; rw [show (l.take 1).tail = [] from by cases l <;> rfl]; rfl, Only.refl _ _⟩
  case round =>
    obtain ⟨k, hk1, hk, rfl, rfl, hP⟩ := hrel
    by_cases hlt : k < len
    · obtain ⟨b', off', hb', _, c0⟩ := HC.out k hlt
      cases hb'
      have c1 := hP.cell c0 (fun f => f)
      have hts := Lib.hid (maxTo_succ l k (by rw [← HL.out]; exact hlt) hk1)
      obtain ⟨x, hx⟩ : ∃ x, l[k]?.getD 0 = x := ⟨_, rfl⟩
      rw [hx] at c1 hts
      clear hx c0
      obtain ⟨m, hm2⟩ : ∃ m, maxTo l k = m := ⟨_, rfl⟩
      rw [hm2] at hts ⊢
      clear hm2
      rcases Int.lt_or_le m x with q | q
      · go_wp2
        go_roundw
        case rel => exact ⟨k + 1, by omega, by omega, by go_num, by rw [hts.out, Int.max_eq_right (Int.le_of_lt q)], hP⟩
        case measure => simp [intOf]; omega
      · go_wp2
        go_roundw
        case rel => exact ⟨k + 1, by omega, by omega, by go_num, by rw [hts.out, Int.max_eq_left q], hP⟩
        case measure => simp [intOf]; omega
    · go_wp2
      go_ret
      exact ⟨by rw [← maxTo_all l k (by rw [← HL.out]; omega)]; rfl, hP⟩
end Go.Proofs.Ytbiffhekbnmffaa
