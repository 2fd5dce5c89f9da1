/-
  Lists of lists; checkChain, checkRows.
-/
import Derived.Test.YtcephfmafmmilaaLc
namespace Go.Proofs.Ytcephfmafmmilaa
open Go.RowKit Go.Shelf

def lAt (ls : List (List Int)) (i : Nat) : List Int := ls[i]?.getD []
/-- A list of lists of numbers lies at a value. -/
def Lists (D : Nat → Prop) (w : World) (v : Value) (ls : List (List Int)) : Prop :=
  ∃ a len cap, v = .slice a len cap ∧ len = ls.length ∧ len ≤ cap ∧ len ≤ 9223372036854775807 ∧ ∀ i, i < len → ∃ b off u, a = some ⟨b, off, none⟩ ∧ D b ∧ w.cell? ⟨b, off + i, none⟩ = some u ∧ Ints D w u (lAt ls i)
theorem Lists.keep {D S : Nat → Prop} {w w' : World} {v : Value} {l : List (List Int)} (h : Lists D w v l) (ho : Only S w w') (hd : ∀ k, D k → ¬ S k) : Lists D w' v l := by
  obtain ⟨a, len, cap, hv, hl, hc, hm, h⟩ := h
  refine ⟨a, len, cap, hv, hl, hc, hm, fun i hi => ?_⟩
  obtain ⟨b, off, u, ha, hD, h0, h1⟩ := h i hi
  exact ⟨b, off, u, ha, hD, ho.cell h0 (hd b hD), h1.keep ho hd⟩
theorem Lists.pure {D : Nat → Prop} {w w' : World} {v : Value} {l : List (List Int)} (h : Lists D w v l) (ho : Pure w w') : Lists D w' v l := h.keep ho (fun _ _ f => f)

theorem chain_zero : ∀ {ls : List (List Int)}, chainFrom ls = 0 → ∀ i, i < ls.length → checkCurve (lAt ls i) = 0
  | [], _, i, hi => by simp at hi
  | c :: r, h, i, hi => by
    unfold chainFrom at h
    by_cases hc : checkCurve c = 0
    · rw [if_neg (by simpa using hc)] at h
      cases i with
      | zero => simpa [lAt] using hc
      | succ i => have := chain_zero h i (by simpa using hi); simpa [lAt] using this
    · rw [if_pos hc] at h; exact absurd h hc
/-- The first that is no curve. -/
theorem chain_first : ∀ {ls : List (List Int)} {k : Nat}, k < ls.length → (∀ j, j < k → checkCurve (lAt ls j) = 0) → checkCurve (lAt ls k) ≠ 0 → chainFrom ls = checkCurve (lAt ls k)
  | [], k, hk, _, _ => by simp at hk
  | c :: r, 0, _, _, h => by unfold chainFrom; rw [if_pos (by simpa [lAt] using h)]; rfl
  | c :: r, k + 1, hk, hj, h => by
    have h0 := hj 0 (by omega)
    have ih := chain_first (ls := r) (k := k) (by simpa using hk) (fun j hjk => by have := hj (j + 1) (by omega); simpa [lAt] using this) (by simpa [lAt] using h)
    unfold chainFrom
    rw [if_neg (by simpa [lAt] using h0), ih]
    simp [lAt]
theorem chain_all : ∀ {ls : List (List Int)}, (∀ j, j < ls.length → checkCurve (lAt ls j) = 0) → chainFrom ls = 0
  | [], _ => rfl
  | c :: r, hj => by
    have h0 := hj 0 (by simp)
    unfold chainFrom
    rw [if_neg (by simpa [lAt] using h0)]
    exact chain_all (fun j hjk => by have := hj (j + 1) (by simpa using hjk); simpa [lAt] using this)

set_option maxHeartbeats 1000000 in
set_option maxRecDepth 100000 in
theorem checkChain_any (D : Nat → Prop) (v : Value) (ch : List (List Int)) (w : World) (hv : Lists D w v ch) :
    Calls Try.prog 48 #[v] w fun e w' => e = .returned (.int .i64 (checkChain ch)) ∧ Pure w w' := by
  obtain ⟨a, n, cap, rfl, hn, _, hm, hc⟩ := hv
  have hdef : checkChain ch = if withinB 1 3 [(n : Int)] = false then 6 else chainFrom ch := by rw [hn]; rfl
  have hf : ∀ k, k < n → (∀ j, j < k → checkCurve (lAt ch j) = 0) → checkCurve (lAt ch k) ≠ 0 → chainFrom ch = checkCurve (lAt ch k) := fun k hk => chain_first (by omega)
  have ha : (∀ j, j < n → checkCurve (lAt ch j) = 0) → chainFrom ch = 0 := fun h => chain_all (fun j hj => h j (by omega))
  obtain ⟨R, hRR⟩ : ∃ R, checkChain ch = R := ⟨_, rfl⟩
  rw [hRR] at hdef ⊢
  have HD := Lib.hid hdef; have HC := Lib.hid hc; have HF := Lib.hid hf; have HA := Lib.hid ha
  clear hdef hRR hn hc hf ha
  go_enter Try.func48, Try.ntmps48
  go_wp2_with fail
  refine (within_one 1 3 n _ _ ?_).mono ?_
  · simp
  rintro e w1 ⟨rfl, P1⟩
  have Q1 := Lib.hid (((Only.refl (fun _ => False) w).alloc (.cells #[.int .i64 n] 2)).trans P1)
  clear P1
  cases h1 : withinB 1 3 [(n : Int)] with
  | false =>
    have HX := Lib.hid (show R = 6 from by rw [HD.out, if_pos h1])
    clear h1
    go_wp2
    go_ret
    exact ⟨by rw [HX.out]; rfl, Q1.out⟩
  | true =>
    have hd := HD.out
    rw [if_neg (by rw [h1]; simp)] at hd
    have HD2 := Lib.hid hd
    clear h1 hd
    go_wp2_with fail
    go_loopw [13] (fun i wr => ∃ k : Nat, k ≤ n ∧ i = .int .i64 k ∧ Hid (∀ j, j < k → checkCurve (lAt ch j) = 0) ∧ Pure w wr) (fun i _ => n - (intOf i).toNat)
    case atStart => exact ⟨0, by omega, rfl, Lib.hid (fun j hj => by omega), Q1.out⟩
    case round =>
      obtain ⟨k, hk, rfl, hI, hP⟩ := hrel
      by_cases hlt : k < n
      · obtain ⟨b, off, u, rfl, _, c0, hu⟩ := HC.out k hlt
        have k0 := hP.cell c0 (fun f => f)
        have hcu := checkCurve_any D u (lAt ch k) wr (hu.pure hP)
        obtain ⟨u1, u2, u3, rfl⟩ : ∃ a n c, u = .slice a n c := by obtain ⟨a, n, c, hu, _⟩ := hu; exact ⟨a, n, c, hu⟩
        obtain ⟨z, hz⟩ : ∃ z, checkCurve (lAt ch k) = z := ⟨_, rfl⟩
        rw [hz] at hcu
        have HZ := Lib.hid hz; have HP := Lib.hid hP
        clear c0 hz hP hu
        go_wp2_with fail
        refine hcu.mono ?_
        rintro e w2 ⟨rfl, P2⟩
        have Q2 := Lib.hid (HP.out.trans P2)
        clear hcu P2 k0
        by_cases hz0 : z = 0
        · subst hz0
          go_wp2
          go_roundw
          case rel => exact ⟨k + 1, by omega, by go_num, Lib.hid (fun j hj => by rcases (by omega : j < k ∨ j = k) with h | rfl; exact hI.out j h; exact HZ.out), Q2.out⟩
          case measure => simp [intOf]; omega
        · have hzb : (z == 0) = false := by simpa using hz0
          have HX := Lib.hid (show R = z from by rw [HD2.out, HF.out k hlt hI.out (by rw [HZ.out]; exact hz0), HZ.out])
          go_wp2
          go_ret
          exact ⟨by rw [HX.out]; rfl, Q2.out⟩
      · obtain rfl : k = n := by omega
        have HX := Lib.hid (show R = 0 from by rw [HD2.out, HA.out hI.out])
        have HP := Lib.hid hP
        clear hP
        go_wp2
        go_ret
        exact ⟨by rw [HX.out]; rfl, HP.out⟩
end Go.Proofs.Ytcephfmafmmilaa
