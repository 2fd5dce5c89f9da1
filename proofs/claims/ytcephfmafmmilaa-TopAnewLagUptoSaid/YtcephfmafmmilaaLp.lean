/-
  Added.
-/
import Derived.Test.YtcephfmafmmilaaLo
namespace Go.Proofs.Ytcephfmafmmilaa
open Go.RowKit Go.Shelf

theorem lazyOf_bd {c A : List Int} (hA : ∀ i, 0 ≤ nAt A i ∧ nAt A i ≤ 1000000) (hb : ∀ i, 0 ≤ nAt c i ∧ nAt c i ≤ 100) (i : Nat) : 0 ≤ nAt (lazyOf c A) i ∧ nAt (lazyOf c A) i ≤ 1000000 := by
  by_cases hi : i < A.length
  · have := lazyOf_get c A i hi
    unfold nAt
    rw [this]
    exact lazyTo_bd hA hb i i
  · simp [nAt, List.getElem?_eq_none (show (lazyOf c A).length ≤ i by rw [lazyOf_len]; omega)]

set_option maxHeartbeats 2000000 in
set_option maxRecDepth 100000 in
theorem Added_any (D D1 : Nat → Prop) (v v1 : Value) (c came : List Int) (w : World) (hv : Ints D w v c) (hv1 : Ints D1 w v1 came) :
    Calls Try.prog 29 #[v, v1] w fun e w' => ∃ x, e = .returned (.tuple #[x, .int .i64 (addedR c came).2]) ∧ w'.ownsRow w.heap.size 2 1 x (addedR c came).1.length ((addedR c came).1.map (.int .i64)) ∧ Pure w w' := by
  have hdef : addedR c came = if checkCurve c ≠ 0 then ([], checkCurve c) else if checkRow came ≠ 0 then ([], checkRow came) else (stepsOf (lazyOf c (sumsOf came)), 0) := rfl
  have hC := checkCurve_any D v c w hv
  have hcu := @curve_of c
  have hrow := @row_of came
  have hR := hv; have hR1 := hv1
  obtain ⟨a, n, cap, rfl⟩ := hv.form
  obtain ⟨a1, n1, cap1, rfl⟩ := hv1.form
  obtain ⟨s, hs⟩ : ∃ s, checkCurve c = s := ⟨_, rfl⟩
  obtain ⟨p, hp⟩ : ∃ p, checkRow came = p := ⟨_, rfl⟩
  obtain ⟨R, hRR⟩ : ∃ R, addedR c came = R := ⟨_, rfl⟩
  rw [hRR] at hdef ⊢
  rw [hs] at hC hdef hcu
  rw [hp] at hdef hrow
  have hrows := fun W (hW : Pure w W) => checkRows_any (fun _ => True) _ _ (W.alloc (.cells #[.slice a1 n1 cap1] 22)) (one_list ((hR1.pure hW).any (D' := fun _ => True) (fun _ _ => trivial)))
  simp only [rowsE_one', hp] at hrows
  have HD := Lib.hid hdef; have HCU := Lib.hid hcu; have HRW := Lib.hid hrow; have HRS := Lib.hid hrows; have HR := Lib.hid hR; have HR1 := Lib.hid hR1
  clear hdef hcu hrow hrows hR hR1 hv hv1 hs hp hRR
  go_enter Try.func29, Try.ntmps29
  go_wp2_with fail
  refine hC.mono ?_
  rintro e w1 ⟨rfl, P1⟩
  have Q1 := Lib.hid P1
  clear hC P1
  by_cases hs0 : s = 0
  · subst hs0
    obtain ⟨c1, c6, cb⟩ := HCU.out rfl
    have C1 := Lib.hid c1; have CB := Lib.hid cb
    have hrs := HRS.out w1 Q1.out
    clear c1 c6 cb
    go_wp2_with fail
    refine hrs.mono ?_
    rintro e w2 ⟨rfl, P2⟩
    have Q2 := Lib.hid (Q1.out.trans P2.of_alloc)
    clear hrs P2
    by_cases hp0 : p = 0
    · subst hp0
      obtain ⟨l60, b1⟩ := HRW.out rfl
      have hsm := sums_any D1 _ came w2 (HR1.out.pure Q2.out) l60 b1
      have hA := sumsOf_bd l60 b1
      have hlen := sumsOf_len came
      have hd := HD.out
      rw [if_neg (by simp), if_neg (by simp)] at hd
      obtain ⟨N, hN⟩ : ∃ N, came.length + 1 = N := ⟨_, rfl⟩
      have hN61 : N ≤ 61 := by omega
      rw [hN] at hsm hlen
      have hN1 : 1 ≤ N := by omega
      have HA := Lib.hid hA; have HLEN := Lib.hid hlen; have HD2 := Lib.hid hd
      clear hA hlen hd hN l60 b1
      go_wp2_with fail
      refine hsm.mono ?_
      rintro e w3 ⟨rfl, o3, P3⟩
      have Q3 := Lib.hid (Q2.out.trans P3)
      have hin := ints_block (sumsOf came) N N (owns_full o3).1 HLEN.out.symm (Nat.le_refl _) (by rw [List.take_of_length_le (by simp [HLEN.out])]) (by omega)
      have hlz := lazy_any D _ _ _ c (sumsOf came) w3 (HR.out.pure Q3.out) hin C1.out CB.out HA.out (by rw [HLEN.out]; exact hN1) (by rw [HLEN.out]; exact hN61)
      rw [HLEN.out] at hlz
      clear hsm o3 P3 hin
      go_wp2_with fail
      refine hlz.mono ?_
      rintro e w4 ⟨rfl, h4, P4⟩
      have Q4 := Lib.hid (Q3.out.trans P4)
      have hin := ints_block (lazyOf c (sumsOf came)) N N h4 (by rw [lazyOf_len, HLEN.out]) (Nat.le_refl _) (by rw [List.take_of_length_le (by simp [lazyOf_len, HLEN.out])]) (by omega)
      have hst := steps_any _ _ _ w4 hin (by rw [lazyOf_len, HLEN.out]; omega) (lazyOf_bd HA.out CB.out)
      obtain ⟨l, hl⟩ : ∃ l, stepsOf (lazyOf c (sumsOf came)) = l := ⟨_, rfl⟩
      rw [hl] at hst
      have HX := Lib.hid (show R = (l, 0) from by rw [HD2.out, hl])
      clear hlz h4 P4 hin hl
      go_wp2_with fail
      refine hst.mono ?_
      rintro e w5 ⟨x, rfl, o5, P5⟩
      have Q5 := Lib.hid (Q4.out.trans P5)
      obtain ⟨ao, ac, rfl, _⟩ := owns_form o5
      have O5 := Lib.hid (owns_le o5 Q4.out.size)
      clear hst o5 P5
      go_wp2
      go_ret2
      exact ⟨_, by rw [HX.out]; rfl, by rw [HX.out]; exact O5.out, Q5.out⟩
    · have hpb : (p == 0) = false := by simpa using hp0
      have HX := Lib.hid (show R = ([], p) from by rw [HD.out, if_neg (by simp), if_pos hp0])
      go_wp2
      go_ret2
      exact ⟨.slice none 0 0, by rw [HX.out]; rfl, by rw [HX.out]; exact World.ownsRow_nil _ _ _ _, Q2.out⟩
  · have hsb : (s == 0) = false := by simpa using hs0
    have HX := Lib.hid (show R = ([], s) from by rw [HD.out, if_pos hs0])
    go_wp2
    go_ret2
    exact ⟨.slice none 0 0, by rw [HX.out]; rfl, by rw [HX.out]; exact World.ownsRow_nil _ _ _ _, Q1.out⟩
end Go.Proofs.Ytcephfmafmmilaa
