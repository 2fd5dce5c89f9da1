/-
  What the checks of package crowd compute, and the floor of a valid hall.
-/
import Derived.Test.YtbiffhekbnmffaaCm
namespace Go.Proofs.Ytbiffhekbnmffaa
open Go.RowKit

/-- People, read. -/
def People (D : Nat → Prop) (w : World) (v : Value) (l : List Person) : Prop :=
  ∃ a len cap, v = .slice a len cap ∧ len = l.length ∧ len ≤ cap ∧ len ≤ 9223372036854775807 ∧ ∀ i, i < len → ∃ b off, a = some ⟨b, off, none⟩ ∧ D b ∧
    w.cell? ⟨b, off + i * 3, none⟩ = some (.int .i64 (pAt l i).lo) ∧ w.cell? ⟨b, off + i * 3 + 1, none⟩ = some (.int .i64 (pAt l i).hi) ∧ w.cell? ⟨b, off + i * 3 + 2, none⟩ = some (.int .i64 (pAt l i).til)
theorem People.keep {D S : Nat → Prop} {w w' : World} {v : Value} {l : List Person} (h : People D w v l) (ho : Only S w w') (hd : ∀ k, D k → ¬ S k) : People D w' v l := by
  obtain ⟨a, len, cap, hv, hl, hc, hm, h⟩ := h
  refine ⟨a, len, cap, hv, hl, hc, hm, fun i hi => ?_⟩
  obtain ⟨b, off, ha, hD, h0, h1, h2⟩ := h i hi
  exact ⟨b, off, ha, hD, ho.cell h0 (hd b hD), ho.cell h1 (hd b hD), ho.cell h2 (hd b hD)⟩
theorem People.pure {D : Nat → Prop} {w w' : World} {v : Value} {l : List Person} (h : People D w v l) (ho : Pure w w') : People D w' v l := h.keep ho (fun _ _ f => f)

set_option maxHeartbeats 400000 in
theorem odd_any (B : Nat) (m : Int) (p : Person) (w : World) (h0 : w.cell? ⟨B, 0, none⟩ = some (.int .i64 m)) :
    Calls Try.prog 36 #[.agg #[.int .i64 p.lo, .int .i64 p.hi, .int .i64 p.til], .pointer (some ⟨B, 0, none⟩)] w fun e w' => e = .returned (.bool (oddP m p)) ∧ Pure w w' := by
  by_cases c1 : p.hi < p.lo
  · go_enter Try.func36, Try.ntmps36
    go_wp2
    go_ret
    exact ⟨by simp [oddP, c1], (Only.refl _ w).alloc _⟩
  · have hf : decide (p.hi < p.lo) = false := by simpa using c1
    have g0 := ((Only.refl (fun _ => False) w).alloc (.cells #[.int .i64 p.lo, .int .i64 p.hi, .int .i64 p.til] 64)).cell h0 (fun f => f)
    go_enter Try.func36, Try.ntmps36
    go_wp2_with fail
    refine (within_three 1 m p.lo p.hi p.til _ _ (by simp) (by simp) (by simp)).mono ?_
    rintro e w' ⟨rfl, hP⟩
    go_wp2
    go_ret
    exact ⟨by simp [oddP, hf], hP.of_alloc.of_alloc⟩

set_option maxHeartbeats 400000 in
theorem index_people (D : Nat → Prop) (g : Nat) (lb : Array Value) (q : Person → Bool) (v : Value) (l : List Person) (w : World) (hE : ∀ args w, (callFunc g args).run Try.prog w = .ok (.enter g args) w)
    (hq : ∀ (p : Person) (W : World), Pure w W → Calls Try.prog g (#[.agg #[.int .i64 p.lo, .int .i64 p.hi, .int .i64 p.til]] ++ lb) W fun e w' => e = .returned (.bool (q p)) ∧ Pure W w') (hv : People D w v l) :
    Calls Try.prog 60 #[v, .func (.func g) #[] lb] w fun e w' => e = .returned (.int .i64 (idxFrom q l 0)) ∧ Pure w w' := by
  obtain ⟨a, len, cap, rfl, hlen, _, hm, hc⟩ := hv
  have HL := Lib.hid hlen; clear hlen
  have HC := Lib.hid hc; clear hc
  have HQ := Lib.hid hq; clear hq
  go_enter Try.func60, Try.ntmps60
  go_wp2
  go_loopw [8] (fun i wr => ∃ k : Nat, k ≤ len ∧ i = .int .i64 k ∧ Hid (idxFrom q l 0 = idxFrom q (l.drop k) k) ∧ Pure w wr) (fun i _ => len - (intOf i).toNat)
  case atStart => exact ⟨0, Nat.zero_le _, rfl, Lib.hid (by simp), Only.refl _ _⟩
  case round =>
    obtain ⟨k, hk, rfl, hI, hP⟩ := hrel
    by_cases hlt : k < len
    · obtain ⟨b, off, rfl, _, c0, c1, c2⟩ := HC.out k hlt
      have h0 := hP.cell c0 (fun f => f)
      have h1 := hP.cell c1 (fun f => f)
      have h2 := hP.cell c2 (fun f => f)
      clear c0 c1 c2
      have hstep := Lib.hid (idx_step q l k (pAt l k) (by unfold pAt; rw [List.getElem?_eq_getElem (by rw [← HL.out]; exact hlt)]; rfl))
      go_wp2_with fail
      refine (HQ.out (pAt l k) _ hP).mono ?_
      rintro e w2 ⟨rfl, hP2⟩
      cases hx : q (pAt l k) with
      | true =>
        have HX := Lib.hid hx; clear hx
        go_wp2
        go_ret
        exact ⟨by rw [hI.out, hstep.out]; rw [if_pos HX.out]; rfl, hP.trans hP2⟩
      | false =>
        have HX := Lib.hid hx; clear hx
        go_wp2
        go_roundw
        case rel => exact ⟨k + 1, by omega, by go_num, Lib.hid (by rw [hI.out, hstep.out]; rw [if_neg (by rw [HX.out]; simp)]), hP.trans hP2⟩
        case measure => simp [intOf]; omega
    · go_wp2
      go_ret
      have hk' : l.drop k = [] := List.drop_eq_nil_of_le (by rw [← HL.out]; omega)
      exact ⟨by rw [hI.out, hk']; rfl, hP⟩

set_option maxHeartbeats 400000 in
theorem contains_people (D : Nat → Prop) (g : Nat) (lb : Array Value) (q : Person → Bool) (v : Value) (l : List Person) (w : World) (hE : ∀ args w, (callFunc g args).run Try.prog w = .ok (.enter g args) w)
    (hq : ∀ (p : Person) (W : World), Pure w W → Calls Try.prog g (#[.agg #[.int .i64 p.lo, .int .i64 p.hi, .int .i64 p.til]] ++ lb) W fun e w' => e = .returned (.bool (q p)) ∧ Pure W w') (hv : People D w v l) :
    Calls Try.prog 38 #[v, .func (.func g) #[] lb] w fun e w' => e = .returned (.bool (l.any q)) ∧ Pure w w' := by
  have hx := idxFrom_ge q l 0 (Int.le_refl _)
  have hI := index_people D g lb q v l w hE hq hv
  clear hq hE
  go_enter Try.func38, Try.ntmps38
  go_wp2_with fail
  refine hI.mono ?_
  rintro e w' ⟨rfl, hP⟩
  have hd : decide (0 ≤ idxFrom q l 0) = l.any q := by rw [Bool.eq_iff_iff]; simpa using hx
  clear hx hI
  go_wp2
  go_ret
  exact ⟨by simp [← hd], hP⟩

set_option maxHeartbeats 1000000 in
theorem checkHall_any (D : Nat → Prop) (pv : Value) (h : Hall) (w : World) (hv : People D w pv h.people) :
    Calls Try.prog 7 #[.agg #[.int .i64 h.minutes, pv]] w fun e w' => e = .returned (.int .i64 (checkHall h)) ∧ Pure w w' := by
  have hR := hv
  obtain ⟨a, len, cap, rfl, hlen, _, hm, _⟩ := hv
  have hP0 : Pure w (w.alloc (Obj.cells #[.int .i64 h.minutes, .slice a len cap] 24)) := (Only.refl _ w).alloc _
  have HL := Lib.hid hlen; clear hlen
  have HR := Lib.hid hR; clear hR
  go_enter Try.func7, Try.ntmps7
  go_wp2_with fail
  refine (within_one 1 60 h.minutes _ _ (by simp)).mono ?_
  rintro e w1 ⟨rfl, P1⟩
  have Q1 := hP0.trans P1.of_alloc
  have d0 := P1.of_alloc.cell (p := ⟨w.heap.size, 0, none⟩) (v := .int .i64 h.minutes) (by simp) (fun f => f)
  have d1 := P1.of_alloc.cell (p := ⟨w.heap.size, 1, none⟩) (v := .slice a len cap) (by simp) (fun f => f)
  clear hP0 P1
  cases h1 : withinB 1 60 [h.minutes] with
  | false =>
    go_wp2
    go_ret
    exact ⟨by simp [checkHall, h1], Q1⟩
  | true =>
    by_cases h2 : 30 < len
    · go_wp2
      go_ret
      exact ⟨by unfold checkHall; rw [if_neg (by rw [h1]; simp), if_pos (by rw [← HL.out]; exact h2)]; rfl, Q1⟩
    · have hC := contains_people D 36 #[.pointer (some ⟨w.heap.size, 0, none⟩)] (oddP h.minutes) _ h.people w1 (enters_of Try.func36 (by kernel_rfl) rfl) (fun p W hW => odd_any _ _ p W (hW.cell d0 (fun f => f))) (HR.out.pure Q1)
      go_wp2_with fail
      refine hC.mono ?_
      rintro e w2 ⟨rfl, P2⟩
      clear hC
      cases h3 : h.people.any (oddP h.minutes) with
      | true =>
        have H3 := Lib.hid h3; have H1 := Lib.hid h1; clear h3 h1
        go_wp2
        go_ret
        exact ⟨by unfold checkHall; rw [if_neg (by rw [H1.out]; simp), if_neg (by rw [← HL.out]; exact h2), if_pos H3.out]; rfl, Q1.trans P2⟩
      | false =>
        have H3 := Lib.hid h3; have H1 := Lib.hid h1; clear h3 h1
        go_wp2
        go_ret
        exact ⟨by unfold checkHall; rw [if_neg (by rw [H1.out]; simp), if_neg (by rw [← HL.out]; exact h2), if_neg (by rw [H3.out]; simp)]; rfl, Q1.trans P2⟩

/-- A hall's floor, in block b. -/
def FloorAt (D : Nat → Prop) (w : World) (b : Nat) (h : Hall) : Prop := ∃ pv, w.heap[b]? = some (.cells #[.int .i64 h.minutes, pv] 98 (0, 0)) ∧ People D w pv h.people
theorem FloorAt.pure {D : Nat → Prop} {w w' : World} {b : Nat} {h : Hall} (hf : FloorAt D w b h) (ho : Pure w w') : FloorAt D w' b h := by
  obtain ⟨pv, hb, hp⟩ := hf; exact ⟨pv, ho.heap hb (fun f => f), hp.pure ho⟩

/-- What 'open' and 'staffed' hand back. -/
def Floored (D : Nat → Prop) (h : Hall) (c : Int) (w : World) (e : Ending) (w' : World) : Prop :=
  (c ≠ 0 ∧ e = .returned (.tuple #[.pointer none, .int .i64 c]) ∧ Pure w w') ∨ (c = 0 ∧ ∃ b, e = .returned (.tuple #[.pointer (some ⟨b, 0, none⟩), .int .i64 0]) ∧ w.heap.size ≤ b ∧ FloorAt D w' b h ∧ Pure w w')

end Go.Proofs.Ytbiffhekbnmffaa
