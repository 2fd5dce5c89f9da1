/-
  Most and Least.
-/
import Derived.Test.YtcephfmafmmilaaLx
namespace Go.Proofs.Ytcephfmafmmilaa
open Go.RowKit Go.Shelf

theorem good_of {c : List Int} (h : checkCurve c = 0) : GoodC c := curve_of h
theorem within1_iff {lo hi x : Int} : withinB lo hi [x] = true ↔ lo ≤ x ∧ x ≤ hi := by
  rw [withinB_iff]
  constructor
  · intro h; have := h 0 (by simp); simpa [nAt] using this
  · intro h i hi; obtain rfl : i = 0 := by simpa using hi
    simpa [nAt] using h
theorem Ints.below {D : Nat → Prop} {w : World} {v : Value} {l : List Int} (h : Ints D w v l) : Ints (fun k => k < w.heap.size) w v l := h.fresh.any (fun _ hk => hk.2)

set_option maxHeartbeats 2000000 in
set_option maxRecDepth 100000 in
theorem Most_any (D : Nat → Prop) (v : Value) (c : List Int) (t : Int) (w : World) (hv : Ints D w v c) :
    Calls Try.prog 11 #[v, .int .i64 t] w fun e w' => e = .returned (.tuple #[.int .i64 (mostR c t).1, .int .i64 (mostR c t).2]) ∧ Pure w w' := by
  have hdef : mostR c t = if checkCurve c ≠ 0 then (0, checkCurve c) else if withinB 0 200 [t] = false then (0, 3) else (mostOf c t.toNat, 0) := rfl
  have hC := checkCurve_any D v c w hv
  have hgd := @good_of c
  have hR := hv
  obtain ⟨a, n, cap, rfl⟩ := hv.form
  obtain ⟨s, hs⟩ : ∃ s, checkCurve c = s := ⟨_, rfl⟩
  obtain ⟨R, hRR⟩ : ∃ R, mostR c t = R := ⟨_, rfl⟩
  rw [hRR] at hdef ⊢
  rw [hs] at hC hdef hgd
  have HD := Lib.hid hdef; have HGD := Lib.hid hgd; have HR := Lib.hid hR
  clear hdef hgd hR hv hs hRR
  go_enter Try.func11, Try.ntmps11
  go_wp2_with fail
  refine hC.mono ?_
  rintro e w1 ⟨rfl, P1⟩
  have Q1 := Lib.hid P1
  clear hC P1
  by_cases hs0 : s = 0
  · subst hs0
    have HG := Lib.hid (HGD.out rfl)
    go_wp2_with fail
    refine (within_one 0 200 t _ _ ?_).mono ?_
    · simp
    rintro e w2 ⟨rfl, P2⟩
    have Q2 := Lib.hid (Q1.out.trans P2.of_alloc)
    clear P2
    cases hwi : withinB 0 200 [t] with
    | false =>
      have HX := Lib.hid (show R = (0, 3) from by rw [HD.out, if_neg (by simp), if_pos hwi])
      clear hwi
      go_wp2
      go_ret2
      exact ⟨by rw [HX.out]; rfl, Q2.out⟩
    | true =>
      have hb := within1_iff.1 hwi
      have hX : R = (mostOf c t.toNat, 0) := by rw [HD.out, if_neg (by simp), if_neg (by rw [hwi]; simp)]
      obtain ⟨k, rfl⟩ : ∃ k : Nat, t = k := ⟨t.toNat, by omega⟩
      rw [Int.toNat_natCast] at hX
      have hk : k ≤ 200 := by omega
      have hnb := newBoard_any _ _ c w2 (HR.out.pure Q2.out) HG.out
      have HX := Lib.hid hX
      clear hwi hb hX
      go_wp2_with fail
      refine hnb.mono ?_
      rintro e w3 ⟨b, rfl, hM, P3⟩
      have hm := most_made k HG.out ((HR.out.pure Q2.out).below.pure P3) (by omega) hM P3.size
      have Q3 := Lib.hid (Q2.out.trans P3); have HM := Lib.hid hM
      have HSZ := Lib.hid Q2.out.size
      obtain ⟨y, hy⟩ : ∃ y, mostOf c k = y := ⟨_, rfl⟩
      rw [hy] at hm
      have HY := Lib.hid hy
      clear hnb P3 hM hy
      go_wp2_with fail
      refine hm.mono ?_
      rintro e w4 ⟨rfl, _, hO⟩
      have HQ := Lib.hid (show Pure w w4 from Q3.out.trans' hO (fun i hi e => by have := HSZ.out; have := e.1; omega))
      clear hm hO
      go_wp2
      go_ret2
      exact ⟨by rw [HX.out, HY.out]; rfl, HQ.out⟩
  · have hsb : (s == 0) = false := by simpa using hs0
    have HX := Lib.hid (show R = (0, s) from by rw [HD.out, if_pos hs0])
    go_wp2
    go_ret2
    exact ⟨by rw [HX.out]; rfl, Q1.out⟩

theorem chain_of {ch : List (List Int)} (h : checkChain ch = 0) : 1 ≤ ch.length ∧ ch.length ≤ 3 ∧ ∀ i, i < ch.length → GoodC (lAt ch i) := by
  unfold checkChain at h
  cases h1 : withinB 1 3 [(ch.length : Int)] with
  | false => rw [h1] at h; simp at h
  | true =>
    rw [h1] at h
    simp only [Bool.true_eq_false, if_false] at h
    have := within1_iff.1 h1
    exact ⟨by omega, by omega, fun i hi => good_of (chain_zero h i hi)⟩

set_option maxHeartbeats 2000000 in
set_option maxRecDepth 100000 in
theorem Least_any (D : Nat → Prop) (v : Value) (ch : List (List Int)) (t : Int) (w : World) (hv : Lists D w v ch) :
    Calls Try.prog 14 #[v, .int .i64 t] w fun e w' => e = .returned (.tuple #[.int .i64 (leastR ch t).1, .int .i64 (leastR ch t).2]) ∧ Pure w w' := by
  have hdef : leastR ch t = if checkChain ch ≠ 0 then (0, checkChain ch) else if withinB 0 200 [t] = false then (0, 3) else (nAt (leasts ch t.toNat) t.toNat, 0) := rfl
  have hC := checkChain_any D v ch w hv
  have hgd := @chain_of ch
  have hR := hv
  obtain ⟨a, n, cap, rfl⟩ : ∃ a n c, v = .slice a n c := by obtain ⟨a, n, c, h, _⟩ := hv; exact ⟨a, n, c, h⟩
  obtain ⟨s, hs⟩ : ∃ s, checkChain ch = s := ⟨_, rfl⟩
  obtain ⟨R, hRR⟩ : ∃ R, leastR ch t = R := ⟨_, rfl⟩
  rw [hRR] at hdef ⊢
  rw [hs] at hC hdef hgd
  have HD := Lib.hid hdef; have HGD := Lib.hid hgd; have HR := Lib.hid hR
  clear hdef hgd hR hv hs hRR
  go_enter Try.func14, Try.ntmps14
  go_wp2_with fail
  refine hC.mono ?_
  rintro e w1 ⟨rfl, P1⟩
  have Q1 := Lib.hid P1
  clear hC P1
  by_cases hs0 : s = 0
  · subst hs0
    have HG := Lib.hid (HGD.out rfl)
    go_wp2_with fail
    refine (within_one 0 200 t _ _ ?_).mono ?_
    · simp
    rintro e w2 ⟨rfl, P2⟩
    have Q2 := Lib.hid (Q1.out.trans P2.of_alloc)
    clear P2
    cases hwi : withinB 0 200 [t] with
    | false =>
      have HX := Lib.hid (show R = (0, 3) from by rw [HD.out, if_neg (by simp), if_pos hwi])
      clear hwi
      go_wp2
      go_ret2
      exact ⟨by rw [HX.out]; rfl, Q2.out⟩
    | true =>
      have hb := within1_iff.1 hwi
      have hX : R = (nAt (leasts ch t.toNat) t.toNat, 0) := by rw [HD.out, if_neg (by simp), if_neg (by rw [hwi]; simp)]
      obtain ⟨k, rfl⟩ : ∃ k : Nat, t = k := ⟨t.toNat, by omega⟩
      rw [Int.toNat_natCast] at hX
      have hk : k ≤ 200 := by omega
      have hls := leasts_any D _ ch k w2 (HR.out.pure Q2.out) HG.out.1 (fun i hi => (HG.out.2.2 i hi).1) (fun i hi => (HG.out.2.2 i hi).2.2) (by omega)
      have hlen := lsTo_len ch k (ch.length - 1)
      rw [lsTo_all ch k (ch.length - 1) (by have := HG.out.1; omega)] at hlen
      obtain ⟨T, hT⟩ : ∃ T, k + 1 = T := ⟨_, rfl⟩
      rw [hT] at hls hlen
      have hkT : k < T := by omega
      have HX := Lib.hid hX; have HLEN := Lib.hid hlen
      clear hwi hb hX hlen hT
      go_wp2_with fail
      refine hls.mono ?_
      rintro e w3 ⟨g, _, rfl, hh, P3⟩
      have kk := arr_get hh k (by rw [HLEN.out]; exact hkT)
      obtain ⟨y, hy⟩ : ∃ y, nAt (leasts ch k) k = y := ⟨_, rfl⟩
      rw [show (leasts ch k)[k]?.getD 0 = y from hy] at kk
      have HY := Lib.hid hy; have Q3 := Lib.hid (Q2.out.trans P3)
      clear hls hh hy P3
      go_wp2
      go_ret2
      exact ⟨by rw [HX.out, HY.out]; rfl, Q3.out⟩
  · have hsb : (s == 0) = false := by simpa using hs0
    have HX := Lib.hid (show R = (0, s) from by rw [HD.out, if_pos hs0])
    go_wp2
    go_ret2
    exact ⟨by rw [HX.out]; rfl, Q1.out⟩
end Go.Proofs.Ytcephfmafmmilaa
