/-
  The floor of a valid hall; windows, falls, bounds.
-/
import Derived.Test.YtbiffhekbnmffaaCa
namespace Go.Proofs.Ytbiffhekbnmffaa
open Go.RowKit

set_option maxHeartbeats 1000000 in
theorem open_any (D : Nat → Prop) (pv : Value) (h : Hall) (w : World) (hv : People D w pv h.people) :
    Calls Try.prog 47 #[.agg #[.int .i64 h.minutes, pv]] w (Floored D h (checkHall h) w) := by
  have hR := hv
  obtain ⟨a, len, cap, rfl⟩ : ∃ a n c, pv = .slice a n c := by obtain ⟨a, n, c, hv, _⟩ := hv; exact ⟨a, n, c, hv⟩
  clear hv
  have hP0 : Pure w (w.alloc (Obj.cells #[.int .i64 h.minutes, .slice a len cap] 24)) := (Only.refl _ w).alloc _
  have hC := checkHall_any D (.slice a len cap) h _ (hR.pure hP0)
  have HR := Lib.hid hR; clear hR
  obtain ⟨c, hc⟩ : ∃ c, checkHall h = c := ⟨_, rfl⟩
  rw [hc] at hC ⊢
  clear hc
  go_enter Try.func47, Try.ntmps47
  go_wp2_with fail
  refine hC.mono ?_
  rintro e w1 ⟨rfl, P1⟩
  have d0 := P1.cell (p := ⟨w.heap.size, 0, none⟩) (v := .int .i64 h.minutes) (by simp) (fun f => f)
  have d1 := P1.cell (p := ⟨w.heap.size, 1, none⟩) (v := .slice a len cap) (by simp) (fun f => f)
  have Q1 := hP0.trans P1
  clear hC P1 hP0
  by_cases h0 : c = 0
  · subst h0
    go_wp2
    go_ret2
    exact .inr ⟨rfl, w1.heap.size, rfl, Q1.size, ⟨_, World.alloc_heap_new w1 _, HR.out.pure (Q1.alloc _)⟩, Q1.alloc _⟩
  · go_wp2
    go_ret2
    exact .inl ⟨h0, rfl, Q1⟩

set_option maxHeartbeats 1000000 in
theorem staffed_any (D : Nat → Prop) (pv : Value) (h : Hall) (k : Int) (w : World) (hv : People D w pv h.people) :
    Calls Try.prog 39 #[.agg #[.int .i64 h.minutes, pv], .int .i64 k] w (Floored D h (staffedE h k) w) := by
  have hR := hv
  obtain ⟨a, len, cap, rfl⟩ : ∃ a n c, pv = .slice a n c := by obtain ⟨a, n, c, hv, _⟩ := hv; exact ⟨a, n, c, hv⟩
  clear hv
  have hP0 : Pure w (w.alloc (Obj.cells #[.int .i64 h.minutes, .slice a len cap] 24)) := (Only.refl _ w).alloc _
  have hC := open_any D (.slice a len cap) h _ (hR.pure hP0)
  have hS : staffedE h k = if checkHall h ≠ 0 then checkHall h else if withinB 0 30 [k] = false then 6 else 0 := rfl
  obtain ⟨c, hc⟩ : ∃ c, checkHall h = c := ⟨_, rfl⟩
  obtain ⟨s, hs⟩ : ∃ s, staffedE h k = s := ⟨_, rfl⟩
  rw [hc] at hC hS
  rw [hs] at hS ⊢
  have HS := Lib.hid hS
  clear hc hs hS hR
  go_enter Try.func39, Try.ntmps39
  go_wp2_with fail
  refine hC.mono ?_
  rintro e w1 (⟨h0, rfl, P1⟩ | ⟨rfl, b, rfl, hb, hF, P1⟩)
  · have Q1 := hP0.trans P1
    clear hC P1 hP0
    go_wp2
    go_ret2
    exact .inl ⟨by rw [HS.out, if_pos h0]; exact h0, by rw [HS.out, if_pos h0]; rfl, Q1⟩
  · have Q1 := hP0.trans P1
    have HF := Lib.hid hF
    clear hC P1 hP0 hF
    go_wp2_with fail
    refine (within_one 0 30 k _ _ (by simp)).mono ?_
    rintro e w2 ⟨rfl, P2⟩
    have Q2 := Q1.trans P2.of_alloc
    have hF2 := Lib.hid (HF.out.pure P2.of_alloc)
    have hb' : w.heap.size ≤ b := by simp at hb; omega
    clear P2 Q1
    cases h1 : withinB 0 30 [k] with
    | false =>
      have H1 := Lib.hid h1; clear h1
      go_wp2
      go_ret2
      exact .inl ⟨by rw [HS.out, if_neg (by simp), if_pos H1.out]; decide, by rw [HS.out, if_neg (by simp), if_pos H1.out]; rfl, Q2⟩
    | true =>
      have H1 := Lib.hid h1; clear h1
      go_wp2
      go_ret2
      exact .inr ⟨by rw [HS.out, if_neg (by simp), if_neg (by rw [H1.out]; simp)], b, rfl, hb', hF2.out, Q2⟩

set_option maxHeartbeats 400000 in
theorem window_any (D : Nat → Prop) (b : Nat) (h : Hall) (i : Nat) (w : World) (hF : FloorAt D w b h) (hi : i < h.people.length) :
    Calls Try.prog 40 #[.pointer (some ⟨b, 0, none⟩), .int .i64 i] w fun e w' => e = .returned (.tuple #[.int .i64 (windowP (pAt h.people i)).1, .int .i64 (windowP (pAt h.people i)).2]) ∧ Pure w w' := by
  obtain ⟨pv, hb, a, len, cap, rfl, hlen, _, hm, hc⟩ := hF
  have d1 : w.cell? ⟨b, 1, none⟩ = some (.slice a len cap) := cell_of_row _ _ _ _ _ _ hb
  have hi' : i < len := by omega
  obtain ⟨g, off, rfl, _, c0, c1, c2⟩ := hc i hi'
  obtain ⟨⟨lo, hi2, til⟩, hp⟩ : ∃ p, pAt h.people i = p := ⟨_, rfl⟩
  rw [hp] at c0 c1 c2 ⊢
  clear hc hp hb hlen
  by_cases c3 : til < lo
  · go_enter Try.func40, Try.ntmps40
    go_wp2
    go_ret2
    exact ⟨by unfold windowP; rw [if_pos (by exact c3)]; rfl, (Only.refl _ w).alloc _⟩
  · rcases Int.lt_or_le til hi2 with q | q
    · go_enter Try.func40, Try.ntmps40
      go_wp2
      go_quiet (fail)
      go_wp2
      go_ret2
      exact ⟨by unfold windowP; rw [if_neg (by first | exact c3 | (simp; omega) | simp)]; simp [Int.min_eq_right (Int.le_of_lt q)], ((Only.refl _ w).alloc _).drewN _⟩
    · go_enter Try.func40, Try.ntmps40
      go_wp2
      go_quiet (fail)
      go_wp2
      go_ret2
      exact ⟨by unfold windowP; rw [if_neg (by first | exact c3 | (simp; omega) | simp)]; simp [Int.min_eq_left q], ((Only.refl _ w).alloc _).drewN _⟩
end Go.Proofs.Ytbiffhekbnmffaa
