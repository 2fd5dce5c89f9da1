/-
  CheckCurve; least, ratio, greater.
-/
import Derived.Test.YtcephfmafmmilaaLm
namespace Go.Proofs.Ytcephfmafmmilaa
open Go.RowKit

theorem isNaN_any (x : Int) (w : World) : Calls Try.prog 81 #[.int .i64 x] w fun e w' => e = .returned (.bool false) ∧ w' = w := by
  have h : (x == x) = true := by simp
  go_enter Try.func81, Try.ntmps81
  go_wp2
  go_ret
  exact ⟨by first | rfl | simp, rfl⟩
theorem less_any (x y : Int) (w : World) : Calls Try.prog 70 #[.int .i64 x, .int .i64 y] w fun e w' => e = .returned (.bool (decide (x < y))) ∧ w' = w := by
  go_enter Try.func70, Try.ntmps70
  go_wp2_with fail
  refine (isNaN_any x w).mono ?_
  rintro e w1 ⟨rfl, rfl⟩
  go_wp2_with fail
  go_wp2
  go_ret
  exact ⟨rfl, rfl⟩

theorem less_pure (x y : Int) (w : World) : Calls Try.prog 70 #[.int .i64 x, .int .i64 y] w fun e w' => e = .returned (.bool (decide (x < y))) ∧ Pure w w' :=
  (less_any x y w).mono fun _ _ ⟨h, e⟩ => ⟨h, by rw [e]; exact Only.refl _ _⟩

/-- The pairs behind which a list is sorted. -/
theorem sorted_iff : ∀ (l : List Int), sortedB l = true ↔ ∀ j, j + 1 < l.length → nAt l j ≤ nAt l (j + 1)
  | [] => by simp [sortedB]
  | [a] => by simp [sortedB]
  | a :: b :: r => by
    have ih := sorted_iff (b :: r)
    simp only [sortedB, Bool.and_eq_true, decide_eq_true_eq, ih]
    constructor
    · rintro ⟨h0, h⟩ j hj
      cases j with
      | zero => simpa [nAt] using h0
      | succ j => have := h j (by simpa using hj); simpa [nAt] using this
    · intro h
      exact ⟨by simpa [nAt] using h 0 (by simp), fun j hj => by have := h (j + 1) (by simpa using hj); simpa [nAt] using this⟩

set_option maxHeartbeats 1000000 in
set_option maxRecDepth 100000 in
theorem isSorted_any (D : Nat → Prop) (v : Value) (l : List Int) (w : World) (hv : Ints D w v l) :
    Calls Try.prog 45 #[v] w fun e w' => e = .returned (.bool (sortedB l)) ∧ Pure w w' := by
  obtain ⟨a, n, c, rfl, hn, _, hm, hc⟩ := hv
  have hso := sorted_iff l
  obtain ⟨R, hR⟩ : ∃ R, sortedB l = R := ⟨_, rfl⟩
  rw [hR] at hso ⊢
  rw [← hn] at hso
  have HC := Lib.hid hc; have HSO := Lib.hid hso
  clear hR hso hc hn
  by_cases hn1 : n ≤ 1
  · have HR := Lib.hid (show R = true from HSO.out.2 (fun j hj => by omega))
    go_enter Try.func45, Try.ntmps45
    go_wp2_with fail
    go_loopw [3] (fun i wr => i = .int .i64 ((n : Int) - 1) ∧ wr = w) (fun _ _ => 0)
    case atStart => exact ⟨by go_num, rfl⟩
    case round =>
      obtain ⟨rfl, rfl⟩ := hrel
      go_wp2
      go_ret
      exact ⟨by rw [HR.out]; rfl, Only.refl _ _⟩
  · go_enter Try.func45, Try.ntmps45
    go_wp2_with fail
    go_loopw [3] (fun i wr => ∃ k : Nat, k < n ∧ i = .int .i64 k ∧ Hid (∀ j, k ≤ j → j + 1 < n → nAt l j ≤ nAt l (j + 1)) ∧ Pure w wr) (fun i _ => (intOf i).toNat)
    case atStart => exact ⟨n - 1, by omega, by go_num, Lib.hid (fun j h1 h2 => by omega), Only.refl _ _⟩
    case round =>
      obtain ⟨k, hk, rfl, hI, hP⟩ := hrel
      by_cases hk0 : k = 0
      · subst hk0
        have HR := Lib.hid (show R = true from HSO.out.2 (fun j hj => hI.out j (by omega) hj))
        have HP := Lib.hid hP
        clear hP hI
        go_wp2
        go_ret
        exact ⟨by rw [HR.out]; rfl, HP.out⟩
      · obtain ⟨m, hm1⟩ : ∃ m : Nat, m + 1 = k := ⟨k - 1, by omega⟩
        obtain ⟨g, off, rfl, _, c0⟩ := HC.out k hk
        obtain ⟨g', off', he, _, c1⟩ := HC.out m (by omega)
        simp only [Option.some.injEq, Addr.mk.injEq, and_true] at he
        obtain ⟨rfl, rfl⟩ := he
        have k0 := hP.cell c0 (fun f => f)
        have k1 := hP.cell c1 (fun f => f)
        obtain ⟨x, hx⟩ : ∃ x, nAt l k = x := ⟨_, rfl⟩
        obtain ⟨y, hy⟩ : ∃ y, nAt l m = y := ⟨_, rfl⟩
        rw [show l[k]?.getD 0 = x from hx] at k0
        rw [show l[m]?.getD 0 = y from hy] at k1
        have e1 : (k : Int) - 1 = m := by omega
        have hmn : m < n := by omega
        have e2 : IntKind.i64.wrap (m : Int) = m := by rw [IntKind.wrap_i64]; omega
        have hpos : 0 < k := by omega
        have HX := Lib.hid hx; have HY := Lib.hid hy; have HP := Lib.hid hP; have HM := Lib.hid hm1
        clear c0 c1 hx hy hP hm1
        by_cases hxy : x < y
        · have HR := Lib.hid (show R = false from by
            have hm1 := HM.out
            cases R with
            | false => rfl
            | true => have := HSO.out.1 rfl m (by omega); rw [hm1, HX.out, HY.out] at this; omega)
          go_wp2_with fail
          have g0 := fun g => grow_cell k0 g; have g1 := fun g => grow_cell k1 g
          refine wp_region_grow (by kernel_rfl) (by kernel_rfl) ?_
          repeat (go_big_quiet_step (exact calls_grow (less_pure x y _)))
          refine wpQuiet_nil ?_
          rintro w' ⟨g, rfl⟩
          go_wp2
          go_ret
          exact ⟨by rw [HR.out]; rfl, HP.out.trans (grow_pure _ _)⟩
        · go_wp2_with fail
          have g0 := fun g => grow_cell k0 g; have g1 := fun g => grow_cell k1 g
          refine wp_region_grow (by kernel_rfl) (by kernel_rfl) ?_
          repeat (go_big_quiet_step (exact calls_grow (less_pure x y _)))
          refine wpQuiet_nil ?_
          rintro w' ⟨g, rfl⟩
          go_wp2
          go_roundw
          case rel => exact ⟨m, by omega, by go_num, Lib.hid (fun j h1 h2 => by rcases (by omega : m + 1 ≤ j ∨ j = m) with h | rfl; exact hI.out j (by have := HM.out; omega) h2; rw [HM.out, HX.out, HY.out]; omega), HP.out.trans (grow_pure _ _)⟩
          case measure => simp [intOf]; omega

theorem checkCurve_any (D : Nat → Prop) (v : Value) (c : List Int) (w : World) (hv : Ints D w v c) :
    Calls Try.prog 7 #[v] w fun e w' => e = .returned (.int .i64 (checkCurve c)) ∧ Pure w w' := by
  have hR := hv
  obtain ⟨a, n, cap, rfl⟩ : ∃ a n c, v = .slice a n c := by obtain ⟨a, n, c, hv, _⟩ := hv; exact ⟨a, n, c, hv⟩
  have hn : n = c.length := by obtain ⟨a, n', c, he, hl, _⟩ := hR; cases he; exact hl
  have hdef : checkCurve c = if withinB 1 6 [(n : Int)] = false then 6 else if withinB 0 100 c = false then 3 else if sortedB c = false then 16 else 0 := by rw [hn]; rfl
  obtain ⟨R, hRR⟩ : ∃ R, checkCurve c = R := ⟨_, rfl⟩
  rw [hRR] at hdef ⊢
  have HD := Lib.hid hdef; have HR := Lib.hid hR
  clear hdef hRR hn hv hR
  go_enter Try.func7, Try.ntmps7
  go_wp2_with fail
  refine (within_one 1 6 n _ _ ?_).mono ?_
  · simp
  rintro e w1 ⟨rfl, P1⟩
  have Q1 := Lib.hid (((Only.refl (fun _ => False) w).alloc (.cells #[.int .i64 n] 2)).trans P1)
  clear P1
  cases h1 : withinB 1 6 [(n : Int)] with
  | false =>
    have HX := Lib.hid (show R = 6 from by rw [HD.out, if_pos h1])
    clear h1
    go_wp2
    go_ret
    exact ⟨by rw [HX.out]; rfl, Q1.out⟩
  | true =>
    have hd := HD.out
    rw [if_neg (by rw [h1]; simp)] at hd
    have HD2 := Lib.hid hd
    clear h1 hd
    go_wp2_with fail
    refine (within_any D 0 100 _ c _ (HR.out.pure Q1.out)).mono ?_
    rintro e w2 ⟨rfl, P2⟩
    have Q2 := Lib.hid (Q1.out.trans P2)
    clear P2
    cases h2 : withinB 0 100 c with
    | false =>
      have HX := Lib.hid (show R = 3 from by rw [HD2.out, if_pos h2])
      clear h2
      go_wp2
      go_ret
      exact ⟨by rw [HX.out]; rfl, Q2.out⟩
    | true =>
      have hd := HD2.out
      rw [if_neg (by rw [h2]; simp)] at hd
      have HD3 := Lib.hid hd
      clear h2 hd
      go_wp2_with fail
      refine (isSorted_any D _ c _ (HR.out.pure Q2.out)).mono ?_
      rintro e w3 ⟨rfl, P3⟩
      have Q3 := Lib.hid (Q2.out.trans P3)
      clear P3
      cases h3 : sortedB c with
      | false =>
        have HX := Lib.hid (show R = 16 from by rw [HD3.out, if_pos h3])
        clear h3
        go_wp2
        go_ret
        exact ⟨by rw [HX.out]; rfl, Q3.out⟩
      | true =>
        have HX := Lib.hid (show R = 0 from by rw [HD3.out, if_neg (by rw [h3]; simp)])
        clear h3
        go_wp2
        go_ret
        exact ⟨by rw [HX.out]; rfl, Q3.out⟩
end Go.Proofs.Ytcephfmafmmilaa
