/-
  CheckAdded.
-/
import Derived.Test.YtcephfmafmmilaaLi
namespace Go.Proofs.Ytcephfmafmmilaa
open Go.RowKit Go.Shelf

theorem sumsOf_bd {r : List Int} (h60 : r.length ≤ 60) (hb : ∀ i, 0 ≤ nAt r i ∧ nAt r i ≤ 10000) (i : Nat) : 0 ≤ nAt (sumsOf r) i ∧ nAt (sumsOf r) i ≤ 1000000 := by
  by_cases hi : i ≤ r.length
  · rw [sumsOf_get r i hi]
    have := sumTo_bd hb i hi
    omega
  · simp [nAt, List.getElem?_eq_none (show (sumsOf r).length ≤ i by rw [sumsOf_len]; omega)]
theorem lazyOf_len (c A : List Int) : (lazyOf c A).length = A.length := by simp [lazyOf]
theorem lazyOf_get (c A : List Int) (t : Nat) (h : t < A.length) : (lazyOf c A)[t]?.getD 0 = lazyAt c A t := by simp [lazyOf, h]

set_option maxHeartbeats 2000000 in
set_option maxRecDepth 100000 in
theorem CheckAdded_any (D D1 D2 : Nat → Prop) (v v1 v2 : Value) (c came added : List Int) (w : World) (hv : Ints D w v c) (hv1 : Ints D1 w v1 came) (hv2 : Ints D2 w v2 added) :
    Calls Try.prog 27 #[v, v1, v2] w fun e w' => e = .returned (.int .i64 (checkAddedR c came added)) ∧ Pure w w' := by
  have hdef : checkAddedR c came added = if checkCurve c ≠ 0 then checkCurve c else if pairE came added ≠ 0 then pairE came added
    else if (List.range (came.length + 1)).any (fun t => decide (sumTo added t < lazyAt c (sumsOf came) t)) then 18 else 0 := rfl
  have hC := checkCurve_any D v c w hv
  have hcu := @curve_of c
  have hpr := fun W (hW : Pure w W) => pair_any D1 D2 v1 v2 came added W (hv1.pure hW) (hv2.pure hW)
  have hR := hv
  obtain ⟨a, n, cap, rfl⟩ := hv.form
  obtain ⟨a1, n1, cap1, rfl⟩ := hv1.form
  obtain ⟨a2, n2, cap2, rfl⟩ := hv2.form
  obtain ⟨s, hs⟩ : ∃ s, checkCurve c = s := ⟨_, rfl⟩
  obtain ⟨p, hp⟩ : ∃ p, pairE came added = p := ⟨_, rfl⟩
  obtain ⟨R, hRR⟩ : ∃ R, checkAddedR c came added = R := ⟨_, rfl⟩
  rw [hRR] at hdef ⊢
  rw [hs] at hC hdef hcu
  rw [hp] at hdef
  simp only [hp] at hpr
  have HD := Lib.hid hdef; have HCU := Lib.hid hcu; have HPR := Lib.hid hpr; have HR := Lib.hid hR
  clear hdef hcu hpr hR hv hv1 hv2 hs hp hRR
  go_enter Try.func27, Try.ntmps27
  go_wp2_with fail
  refine hC.mono ?_
  rintro e w1 ⟨rfl, P1⟩
  have Q1 := Lib.hid P1
  clear hC P1
  by_cases hs0 : s = 0
  · subst hs0
    obtain ⟨c1, c6, cb⟩ := HCU.out rfl
    have C1 := Lib.hid c1; have CB := Lib.hid cb
    have hpr := HPR.out w1 Q1.out
    clear c1 c6 cb
    go_wp2_with fail
    refine hpr.mono ?_
    rintro e w2 ⟨x, y, rfl, hpd, -, -, P2⟩
    have Q2 := Lib.hid (Q1.out.trans P2)
    have HPD := Lib.hid hpd
    clear hpr hpd P2
    by_cases hp0 : p = 0
    · subst hp0
      obtain ⟨N, g1, g2, hN, hl, l60, b1, b2, hx, hy, -, -, hh1, hh2⟩ := HPD.out rfl
      subst hx hy
      clear HPD
      have hA := sumsOf_bd l60 b1
      have hlen := sumsOf_len came
      have hlen2 := sumsOf_len added
      have hin := ints_block (sumsOf came) N N hh1 (by rw [hlen, hN]) (Nat.le_refl _) (by rw [List.take_of_length_le (by simp [hlen, hN])]) (by omega)
      have hlz := lazy_any D _ _ _ c (sumsOf came) w2 (HR.out.pure Q2.out) hin C1.out CB.out hA (by rw [hlen]; omega) (by rw [hlen]; omega)
      rw [hlen, ← hN] at hlz
      have hd := HD.out
      rw [if_neg (by simp), if_neg (by simp), ← hN] at hd
      have HD2 := Lib.hid hd
      have hN61 : N ≤ 61 := by omega
      have HH2 := Lib.hid hh2; have HN := Lib.hid hN; have HL := Lib.hid hl; have HLEN := Lib.hid hlen; have HLEN2 := Lib.hid hlen2
      clear hh1 hh2 hin hA hlen hlen2 hd hN hl b1 b2 l60
      go_wp2_with fail
      refine hlz.mono ?_
      rintro e w3 ⟨rfl, h3, P3⟩
      have Q3 := Lib.hid (Q2.out.trans P3)
      have H2 := Lib.hid (P3.heap HH2.out (fun f => f))
      have H3 := Lib.hid h3
      clear hlz h3 P3
      generalize w2.heap.size = g3 at H3 ⊢
      go_wp2_with fail
      go_loopw [32] (fun i wr => ∃ k : Nat, k ≤ N ∧ i = .int .i64 k ∧ Hid (∀ j, j < k → lazyAt c (sumsOf came) j ≤ sumTo added j) ∧ wr = w3) (fun i _ => N - (intOf i).toNat)
      case atStart => exact ⟨0, by omega, rfl, Lib.hid (fun j hj => by omega), rfl⟩
      case round =>
        obtain ⟨k, hk, rfl, hI, rfl⟩ := hrel
        by_cases hlt : k < N
        · have k3 := arr_get H3.out k (by rw [lazyOf_len, HLEN.out, ← HN.out]; exact hlt)
          rw [lazyOf_get c _ k (by rw [HLEN.out, ← HN.out]; exact hlt)] at k3
          have k2 := arr_get H2.out k (by rw [HLEN2.out, ← HL.out, ← HN.out]; exact hlt)
          have hg := sumsOf_get added k (by have := HN.out; have := HL.out; omega)
          unfold nAt at hg
          rw [hg] at k2
          obtain ⟨x, hx⟩ : ∃ x, sumTo added k = x := ⟨_, rfl⟩
          obtain ⟨y, hy⟩ : ∃ y, lazyAt c (sumsOf came) k = y := ⟨_, rfl⟩
          rw [hx] at k2
          rw [hy] at k3
          have HX := Lib.hid hx; have HY := Lib.hid hy
          clear hg hx hy
          by_cases hxy : x < y
          · have HZ := Lib.hid (show R = 18 from by rw [HD2.out, if_pos (by rw [List.any_eq_true]; exact ⟨k, by simpa using hlt, by rw [HX.out, HY.out]; simpa using hxy⟩)])
            go_wp2
            go_ret
            exact ⟨by rw [HZ.out]; rfl, Q3.out⟩
          · go_wp2
            go_roundw
            case rel => exact ⟨k + 1, by omega, by go_num, Lib.hid (fun j hj => by rcases (by omega : j < k ∨ j = k) with h | rfl; exact hI.out j h; rw [HX.out, HY.out]; omega), trivial⟩
            case measure => simp [intOf]; omega
        · obtain rfl : k = N := by omega
          have HZ := Lib.hid (show R = 0 from by
            rw [HD2.out, if_neg]
            rw [List.any_eq_true]
            rintro ⟨j, hj, h⟩
            have a1 := hI.out j (by simpa using hj)
            have a2 : sumTo added j < lazyAt c (sumsOf came) j := by simpa using h
            omega)
          go_wp2
          go_ret
          exact ⟨by rw [HZ.out]; rfl, Q3.out⟩
    · have hpb : (p == 0) = false := by simpa using hp0
      have HX := Lib.hid (show R = p from by rw [HD.out, if_neg (by simp), if_pos hp0])
      go_wp2
      go_ret
      exact ⟨by rw [HX.out]; rfl, Q2.out⟩
  · have hsb : (s == 0) = false := by simpa using hs0
    have HX := Lib.hid (show R = s from by rw [HD.out, if_pos hs0])
    go_wp2
    go_ret
    exact ⟨by rw [HX.out]; rfl, Q1.out⟩
end Go.Proofs.Ytcephfmafmmilaa
