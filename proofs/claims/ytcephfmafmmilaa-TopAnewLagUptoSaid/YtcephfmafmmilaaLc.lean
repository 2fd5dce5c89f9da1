/-
  least; checkChain.
-/
import Derived.Test.YtcephfmafmmilaaLb
namespace Go.Proofs.Ytcephfmafmmilaa
open Go.RowKit Go.Shelf

theorem withinB_iff {lo hi : Int} {l : List Int} : withinB lo hi l = true ↔ ∀ i, i < l.length → lo ≤ nAt l i ∧ nAt l i ≤ hi := by
  unfold withinB outB
  simp only [Bool.not_eq_true', List.any_eq_false]
  constructor
  · intro h i hi'
    have := h (l[i]) (List.getElem_mem hi')
    simp [nAt, hi'] at this ⊢
    omega
  · intro h x hx
    obtain ⟨i, hi', rfl⟩ := List.getElem_of_mem hx
    have := h i hi'
    simp [nAt, hi'] at this ⊢
    omega
theorem curve_of {c : List Int} (h : checkCurve c = 0) : 1 ≤ c.length ∧ c.length ≤ 6 ∧ ∀ i, 0 ≤ nAt c i ∧ nAt c i ≤ 100 := by
  unfold checkCurve at h
  cases h1 : withinB 1 6 [(c.length : Int)] with
  | false => rw [h1] at h; simp at h
  | true =>
    cases h2 : withinB 0 100 c with
    | false => rw [h1, h2] at h; simp at h
    | true =>
      have a := withinB_iff.1 h1 0 (by simp)
      simp [nAt] at a
      refine ⟨by omega, by omega, fun i => ?_⟩
      by_cases hi : i < c.length
      · exact withinB_iff.1 h2 i hi
      · simp [nAt, List.getElem?_eq_none (show c.length ≤ i by omega)]

theorem least1_bd {c : List Int} (hb : ∀ i, 0 ≤ nAt c i ∧ nAt c i ≤ 100) (k : Nat) : 0 ≤ least1 c k ∧ least1 c k ≤ k * 100 + 100 := by
  unfold least1
  have h1 := hb (c.length - 1)
  have hq : k / c.length ≤ k := Nat.div_le_self _ _
  have a0 : 0 ≤ ((k / c.length : Nat) : Int) * nAt c (c.length - 1) := Int.mul_nonneg (Int.natCast_nonneg _) h1.1
  have a1 : ((k / c.length : Nat) : Int) * nAt c (c.length - 1) ≤ (k : Int) * 100 := Int.mul_le_mul (Int.ofNat_le.2 hq) h1.2 h1.1 (Int.natCast_nonneg _)
  split
  · have := hb (k % c.length - 1); omega
  · omega

set_option maxHeartbeats 1000000 in
set_option maxRecDepth 100000 in
theorem least_any (D : Nat → Prop) (v : Value) (c : List Int) (k : Nat) (w : World) (hv : Ints D w v c) (h1 : 1 ≤ c.length) (hb : ∀ i, 0 ≤ nAt c i ∧ nAt c i ≤ 100) (hk : k ≤ 1000) :
    Calls Try.prog 72 #[v, .int .i64 k] w fun e w' => e = .returned (.int .i64 (least1 c k)) ∧ Pure w w' := by
  obtain ⟨a, n, cap, rfl, hn, _, hm, hc⟩ := hv
  have hdef : least1 c k = ((k / n : Nat) : Int) * nAt c (n - 1) + (if 0 < k % n then nAt c (k % n - 1) else 0) := by rw [hn]; rfl
  have hb1 := hb (n - 1)
  have hn1 : 1 ≤ n := by omega
  obtain ⟨g, off, rfl, _, c1⟩ := hc (n - 1) (by omega)
  obtain ⟨z, hz⟩ : ∃ z, nAt c (n - 1) = z := ⟨_, rfl⟩
  rw [show c[n - 1]?.getD 0 = z from hz] at c1
  rw [hz] at hdef hb1
  obtain ⟨m, hm1⟩ : ∃ m : Nat, n - 1 = m := ⟨_, rfl⟩
  rw [hm1] at c1
  obtain ⟨R, hR⟩ : ∃ R, least1 c k = R := ⟨_, rfl⟩
  rw [hR] at hdef ⊢
  have e1 : (n : Int) - 1 = m := by omega
  have e2 : IntKind.i64.wrap (m : Int) = m := by rw [IntKind.wrap_i64]; omega
  have hq : k / n ≤ k := Nat.div_le_self _ _
  obtain ⟨q, hq2⟩ : ∃ q, k / n = q := ⟨_, rfl⟩
  have eq1 : (k : Int) / n = q := by rw [← hq2]; rfl
  have er1 : (k : Int) % n = ((k % n : Nat) : Int) := rfl
  have hrl : k % n < n := Nat.mod_lt _ (by omega)
  obtain ⟨r, hr2⟩ : ∃ r, k % n = r := ⟨_, rfl⟩
  rw [hr2] at er1 hrl hdef
  rw [hq2] at hq hdef
  have hqz0 : 0 ≤ (q : Int) * z := Int.mul_nonneg (by omega) hb1.1
  have hqz1 : (q : Int) * z ≤ 1000 * 100 := Int.mul_le_mul (by omega) hb1.2 hb1.1 (by omega)
  have hmn : m < n := by omega
  have hn0 : ((n : Int) == 0) = false := by have : (n : Int) ≠ 0 := by omega
                                            simpa using this
  have HD := Lib.hid hdef; have HC := Lib.hid hc; have HB := Lib.hid hb
  have EQ := Lib.hid eq1; have ER := Lib.hid er1; have HQ0 := Lib.hid hqz0; have HQ1 := Lib.hid hqz1
  clear hdef hc hb hn hz hm1 hR hq2 hr2 eq1 er1 hqz0 hqz1 h1
  go_enter Try.func72, Try.ntmps72
  go_wp2_with fail
  go_region
  have W1 : wrap64 (q : Int) = q := by unfold wrap64; omega
  obtain ⟨p, hp⟩ : ∃ p, (q : Int) * z = p := ⟨_, rfl⟩
  have W2 : wrap64 p = p := by have := HQ0.out; have := HQ1.out; unfold wrap64; omega
  rw [EQ.out, W1, hp, W2]
  have hd := HD.out
  rw [hp] at hd
  have hp0 := HQ0.out
  have hp1 := HQ1.out
  rw [hp] at hp0 hp1
  have HD := Lib.hid hd
  have er := ER.out
  clear hp hd W1 W2
  by_cases hr0 : r = 0
  · subst hr0
    have HX := Lib.hid (show R = p from by rw [HD.out, if_neg (by omega)]; omega)
    go_wp2
    go_ret
    exact ⟨by rw [HX.out]; rfl, (Only.refl _ w).drew⟩
  · obtain ⟨s, hs⟩ : ∃ s : Nat, s + 1 = r := ⟨r - 1, by omega⟩
    obtain ⟨g', off', he, _, c2⟩ := HC.out s (by omega)
    simp only [Option.some.injEq, Addr.mk.injEq, and_true] at he
    obtain ⟨rfl, rfl⟩ := he
    obtain ⟨y, hy⟩ : ∃ y, nAt c s = y := ⟨_, rfl⟩
    rw [show c[s]?.getD 0 = y from hy] at c2
    have hby := HB.out s
    rw [hy] at hby
    have e3 : (r : Int) - 1 = s := by omega
    have e4 : IntKind.i64.wrap (s : Int) = s := by rw [IntKind.wrap_i64]; omega
    have hrp : (0 : Int) < r := by omega
    have hsn : s < n := by omega
    have HX := Lib.hid (show R = p + y from by rw [HD.out, if_pos (by omega), show r - 1 = s by omega, hy])
    clear hy hs
    go_wp2
    go_ret
    exact ⟨by rw [HX.out]; first | rfl | go_num, (Only.refl _ w).drew⟩
end Go.Proofs.Ytcephfmafmmilaa
