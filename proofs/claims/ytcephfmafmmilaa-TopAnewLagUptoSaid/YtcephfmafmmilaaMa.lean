/-
  Break.
-/
import Derived.Test.YtcephfmafmmilaaLz
import Derived.Test.YtcephfmafmmilaaMixedg
import Derived.WalkMore
namespace Go.Proofs.Ytcephfmafmmilaa
open Go.RowKit Go.Shelf

theorem breakAt_stop {c A : List Int} {t f k : Nat} (h : ¬ t + k < A.length) : breakAt c A t f k = none := by
  cases f with
  | zero => rfl
  | succ f => unfold breakAt; rw [if_neg h]
theorem breakAt_hit {c A : List Int} {t f k : Nat} (h : t + k < A.length) (h2 : mostOf c k < nAt A (t + k) - nAt A t) : breakAt c A t (f + 1) k = some (t, k) := by
  conv => lhs; unfold breakAt
  rw [if_pos h, if_pos h2]
theorem breakAt_next {c A : List Int} {t f k : Nat} (h : t + k < A.length) (h2 : ¬ mostOf c k < nAt A (t + k) - nAt A t) : breakAt c A t (f + 1) k = breakAt c A t f (k + 1) := by
  conv => lhs; unfold breakAt
  rw [if_pos h, if_neg h2]
theorem breakFrom_hit {c A : List Int} {f t : Nat} {x : Nat × Nat} (h : breakAt c A t 61 1 = some x) : breakFrom c A (f + 1) t = some x := by
  conv => lhs; unfold breakFrom
  rw [h]
theorem breakFrom_next {c A : List Int} {f t : Nat} (h : breakAt c A t 61 1 = none) : breakFrom c A (f + 1) t = breakFrom c A f (t + 1) := by
  conv => lhs; unfold breakFrom
  rw [h]

set_option maxHeartbeats 4000000 in
set_option maxRecDepth 100000 in
theorem Break_any (D D1 : Nat → Prop) (v v1 : Value) (c came : List Int) (w : World) (hv : Ints D w v c) (hv1 : Ints D1 w v1 came) :
    Calls Try.prog 19 #[v, v1] w fun e w' => e = .returned (.tuple #[.int .i64 (breakR c came).1, .int .i64 (breakR c came).2.1, .int .i64 (breakR c came).2.2]) ∧ Pure w w' := by
  have hdef : breakR c came = if checkCurve c ≠ 0 then (0, 0, checkCurve c) else if checkRow came ≠ 0 then (0, 0, checkRow came) else
    match breakFrom c (sumsOf came) came.length 0 with
    | none => (0, 0, 5)
    | some (t, k) => ((t : Int), (k : Int), 0) := rfl
  have hC := checkCurve_any D v c w hv
  have hgd := @good_of c
  have hrow := @row_of came
  have hR := hv; have hR1 := hv1
  obtain ⟨a, n0, cap, rfl⟩ := hv.form
  have hl1 : ∃ a c, v1 = .slice a came.length c := by obtain ⟨a, n, c, h, hl, _⟩ := hv1; exact ⟨a, c, by rw [h, hl]⟩
  obtain ⟨a1, cap1, rfl⟩ := hl1
  obtain ⟨s, hs⟩ : ∃ s, checkCurve c = s := ⟨_, rfl⟩
  obtain ⟨p, hp⟩ : ∃ p, checkRow came = p := ⟨_, rfl⟩
  obtain ⟨R, hRR⟩ : ∃ R, breakR c came = R := ⟨_, rfl⟩
  rw [hRR] at hdef ⊢
  rw [hs] at hC hdef hgd
  rw [hp] at hdef hrow
  have hrows := fun W (hW : Pure w W) => checkRows_any (fun _ => True) _ _ (W.alloc (.cells #[.slice a1 came.length cap1] 22)) (one_list ((hR1.pure hW).any (D' := fun _ => True) (fun _ _ => trivial)))
  simp only [rowsE_one', hp] at hrows
  obtain ⟨n, hn⟩ : ∃ n, came.length = n := ⟨_, rfl⟩
  rw [hn] at hdef hrow hrows hR1 ⊢
  have HD := Lib.hid hdef; have HGD := Lib.hid hgd; have HRW := Lib.hid hrow; have HRS := Lib.hid hrows; have HR := Lib.hid hR; have HR1 := Lib.hid hR1; have HN := Lib.hid hn
  clear hdef hgd hrow hrows hR hR1 hv hv1 hs hp hRR hn
  go_enter Try.func19, Try.ntmps19
  go_wp2_with fail
  go_step3
  go_wp2_with fail
  refine hC.mono ?_
  rintro e w1 ⟨rfl, P1⟩
  have Q1 := Lib.hid P1
  clear hC P1
  by_cases hs0 : s = 0
  · subst hs0
    have HG := Lib.hid (HGD.out rfl)
    have hrs := HRS.out w1 Q1.out
    go_wp2_with fail
    refine hrs.mono ?_
    rintro e w2 ⟨rfl, P2⟩
    have Q2 := Lib.hid (Q1.out.trans P2.of_alloc)
    clear hrs P2
    by_cases hp0 : p = 0
    · subst hp0
      obtain ⟨l60, b1⟩ := HRW.out rfl
      have hnb := newBoard_any _ _ c w2 (HR.out.pure Q2.out) HG.out
      have HB1 := Lib.hid b1
      have hd := HD.out
      rw [if_neg (by simp), if_neg (by simp)] at hd
      have HD2 := Lib.hid hd
      clear b1 hd
      go_wp2_with fail
      refine hnb.mono ?_
      rintro e w3 ⟨b, rfl, hM, P3⟩
      have HI := Lib.hid ((HR.out.pure Q2.out).below.pure P3)
      have hQ3 := Q2.out.trans P3
      have hsm := sums_any D1 _ came w3 (HR1.out.pure hQ3) (by rw [HN.out]; exact l60) HB1.out
      rw [HN.out] at hsm
      have hlb := hM.lt
      have hs23 : w2.heap.size ≤ w3.heap.size := P3.size
      have hww : w.heap.size ≤ w2.heap.size := Q2.out.size
      have HM := Lib.hid hM; have HQ3 := Lib.hid hQ3
      obtain ⟨N, hN⟩ : ∃ N, n + 1 = N := ⟨_, rfl⟩
      rw [hN] at hsm
      have hN61 : N ≤ 61 := by omega
      have HNN := Lib.hid hN
      clear hnb P3 hM hQ3 hN
      go_wp2_with fail
      refine hsm.mono ?_
      rintro e w4 ⟨rfl, o4, P4⟩
      have HA := Lib.hid (owns_full o4).1
      have HM4 := Lib.hid (HM.out.pure P4)
      have hs34 : w3.heap.size ≤ w4.heap.size := P4.size
      have HQ4 := Lib.hid (HQ3.out.trans P4)
      have HI4 := Lib.hid (HI.out.pure P4)
      have HAL := Lib.hid (sumsOf_len came)
      have HAB := Lib.hid (sumsOf_bd (by rw [HN.out]; exact l60) HB1.out)
      obtain ⟨A, hA⟩ : ∃ A, sumsOf came = A := ⟨_, rfl⟩
      rw [hA] at HA HD2 HAL HAB
      rw [HN.out, HNN.out] at HAL
      obtain ⟨g1, hg1⟩ : ∃ g1, g1 = w3.heap.size := ⟨_, rfl⟩
      have hhg : w3.heap.size ≤ g1 := by omega
      rw [← hg1] at HA ⊢
      clear hsm o4 P4 hA hg1 HM HI HB1
      go_wp2_with fail
      go_step3
      go_wp2_with fail
      go_loopw [35, 12, 13] (fun i z1 z2 wr => z1 = .int .i64 0 ∧ z2 = .int .i64 0 ∧ ∃ t : Nat, t ≤ n ∧ i = .int .i64 t ∧ Hid (breakFrom c A n 0 = breakFrom c A (n - t) t) ∧ Hid (Made c (.slice a n0 cap) w2.heap.size w3.heap.size b wr) ∧ Hid (Only (fun k => w2.heap.size ≤ k ∧ k < w3.heap.size) w4 wr)) (fun i _ _ _ => n - (intOf i).toNat)
      case atStart => exact ⟨rfl, rfl, 0, Nat.zero_le _, rfl, Lib.hid rfl, HM4, Lib.hid (Only.refl _ _)⟩
      case round =>
        obtain ⟨rfl, rfl, t, ht, rfl, hbf, hMd, hO⟩ := hrel
        by_cases hlt : t < n
        · go_wp2_with fail
          have hMd' := hMd; have hO' := hO
          clear hMd hO
          go_loopw [15, 12, 13] (fun i z1 z2 wr => z1 = .int .i64 0 ∧ z2 = .int .i64 0 ∧ ∃ k f : Nat, 1 ≤ k ∧ t + k ≤ N ∧ i = .int .i64 k ∧ N < f + (t + k) ∧ Hid (breakAt c A t 61 1 = breakAt c A t f k) ∧ Hid (Made c (.slice a n0 cap) w2.heap.size w3.heap.size b wr) ∧ Hid (Only (fun k => w2.heap.size ≤ k ∧ k < w3.heap.size) w4 wr)) (fun i _ _ _ => N - (intOf i).toNat)
          case atStart => exact ⟨rfl, rfl, 1, 61, by omega, by have := HNN.out; omega, rfl, by omega, Lib.hid rfl, hMd', hO'⟩
          case round =>
            obtain ⟨rfl, rfl, k, f, hk1, hkN, rfl, hf, hba, hMd, hO⟩ := hrel
            by_cases hltk : t + k < N
            · obtain ⟨q, hq⟩ : ∃ q, t + k = q := ⟨_, rfl⟩
              rw [hq] at hltk
              have hh := hO.out.heap HA.out (fun e => by omega)
              have kq := arr_get hh q (by rw [HAL.out]; exact hltk)
              have kt := arr_get hh t (by rw [HAL.out]; omega)
              have bq := HAB.out q; have bt := HAB.out t
              obtain ⟨x, hx⟩ : ∃ x, nAt A q = x := ⟨_, rfl⟩
              obtain ⟨y, hy⟩ : ∃ y, nAt A t = y := ⟨_, rfl⟩
              rw [show A[q]?.getD 0 = x from hx] at kq
              rw [show A[t]?.getD 0 = y from hy] at kt
              rw [hx] at bq
              rw [hy] at bt
              have hm := fun W (hW : Pure wr W) => most_made k HG.out (HI4.out.keep (hO.out.trans (hW.mono (fun _ _ f => f.elim))) (fun j hj h => by omega)) (by omega) (hMd.out.pure hW) (by have := hO.out.size; have := hW.size; omega)
              obtain ⟨z, hz⟩ : ∃ z, mostOf c k = z := ⟨_, rfl⟩
              simp only [hz] at hm
              obtain ⟨f, rfl⟩ : ∃ f', f = f' + 1 := ⟨f - 1, by omega⟩
              have e1 : (t : Int) + k = q := by omega
              have e2 : IntKind.i64.wrap (q : Int) = q := by rw [IntKind.wrap_i64]; omega
              have htN : t < N := by omega
              have HMM := Lib.hid hm; have HX := Lib.hid hx; have HY := Lib.hid hy; have HZ := Lib.hid hz; have HQ := Lib.hid hq
              obtain ⟨G, hG⟩ : ∃ G : World → Prop, ∀ x, G x ↔ Only (fun k => w2.heap.size ≤ k ∧ k < w3.heap.size) wr x := ⟨_, fun _ => Iff.rfl⟩
              have gq : ∀ g : InG G, g.world.cell? ⟨g1, q, none⟩ = some (.int .i64 x) := fun g => ((hG _).1 g.holds).cell kq (fun e => by have h : g1 < w3.heap.size := e.2; omega)
              have gt : ∀ g : InG G, g.world.cell? ⟨g1, t, none⟩ = some (.int .i64 y) := fun g => ((hG _).1 g.holds).cell kt (fun e => by have h : g1 < w3.heap.size := e.2; omega)
              haveI hInh : Inhabited (InG G) := ⟨⟨wr, (hG wr).2 (Only.refl _ _)⟩⟩
              have MKG := Lib.hid (fun x (h : Only (fun k => w2.heap.size ≤ k ∧ k < w3.heap.size) wr x) => (hG x).2 h)
              clear hm hx hy hz hh hq hG
              go_wp2_with fail
              refine any_start G (by kernel_rfl) ?_
              refine any_take [0, 1, 2, 3, 4, 5, 6, 7, 8, 9, 10, 11, 12] (by kernel_rfl) (MKG.out _ (Only.refl _ _).drew) (fun d _ _ _ _ h => by cases d <;> exact h) 2 (by kernel_rfl) ?_
              simp only [picks, List.drop_succ_cons, List.drop_zero, List.take_succ_cons, List.take_zero, List.cons_append, List.nil_append]
              repeat (go_big_quiet_step (fail))
              refine wpQuiet_nil ?_
              refine any_force (i := 13) (by kernel_rfl) rfl ?_
              go_wp2_with fail
              refine (HMM.out wr.drew (Only.refl _ _).drew).mono ?_
              rintro e w5 ⟨rfl, hM5, hO5⟩
              have hG5 : Only (fun k => w2.heap.size ≤ k ∧ k < w3.heap.size) wr w5 := (Only.refl _ wr).drew.trans hO5
              have HG5 := Lib.hid (MKG.out w5 hG5)
              have HM5 := Lib.hid hM5; have HO5 := Lib.hid (hO.out.trans hG5)
              clear hM5 hO5 hG5 gq gt hMd hO
              go_wp2_with fail
              refine ⟨HG5.out, ?_⟩
              refine any_take [14] (by kernel_rfl) HG5.out (fun d _ _ _ _ h => by cases d <;> exact h) 0 (by kernel_rfl) ?_
              simp only [picks, List.drop_succ_cons, List.drop_zero, List.take_succ_cons, List.take_zero, List.cons_append, List.nil_append]
              repeat (go_big_quiet_step (fail))
              refine wpQuiet_nil ?_
              refine any_done (by kernel_rfl) ?_
              by_cases hzx : z < x - y
              · have HHIT := Lib.hid (show breakFrom c A n 0 = some (t, k) from by
                  rw [hbf.out]
                  obtain ⟨m, hm⟩ : ∃ m, n - t = m + 1 := ⟨n - t - 1, by omega⟩
                  rw [hm]
                  refine breakFrom_hit ?_
                  rw [hba.out]
                  refine breakAt_hit (by rw [HAL.out]; omega) ?_
                  rw [HZ.out, HQ.out, HX.out, HY.out]; exact hzx)
                have HRZ := Lib.hid (show R = ((t : Int), (k : Int), 0) from by rw [HD2.out, HHIT.out])
                have HW := Lib.hid (show Pure w w5 from HQ4.out.trans' HO5.out (fun i hi e => by have := e.1; omega))
                have hk0 : ((k : Int) == 0) = false := by have : (k : Int) ≠ 0 := by omega
                                                          simpa using this
                clear hba hbf
                go_wp2
                rw [Exit.noGoto_ret]
                go_ret3
                exact ⟨by rw [HRZ.out]; rfl, HW.out⟩
              · have HBA := Lib.hid (hba.out.trans (breakAt_next (by rw [HAL.out]; have := HQ.out; omega) (by rw [HZ.out, HQ.out, HX.out, HY.out]; exact hzx)))
                clear hba
                go_wp2
                go_roundw
                case rel => exact ⟨rfl, rfl, k + 1, f, by omega, by have := HQ.out; omega, by go_num, by have := HQ.out; omega, HBA, HM5, HO5⟩
                case measure => simp [intOf]; omega
            · have hge : ¬ (t : Int) + k < N := by omega
              have HBF := Lib.hid (show breakFrom c A n 0 = breakFrom c A (n - (t + 1)) (t + 1) from by
                rw [hbf.out]
                obtain ⟨m, hm⟩ : ∃ m, n - t = m + 1 := ⟨n - t - 1, by omega⟩
                rw [hm, breakFrom_next (by rw [hba.out]; exact breakAt_stop (by rw [HAL.out]; exact hltk)), show n - (t + 1) = m by omega])
              clear hba hbf
              go_wp2
              go_roundw
              case rel => exact ⟨rfl, rfl, t + 1, by omega, by go_num, HBF, hMd, hO⟩
              case measure => simp [intOf]; omega
        · obtain rfl : n = t := by omega
          have HRZ := Lib.hid (show R = (0, 0, 5) from by rw [HD2.out, hbf.out, Nat.sub_self]; rfl)
          have HW := Lib.hid (show Pure w wr from HQ4.out.trans' hO.out (fun i hi e => by have := e.1; omega))
          clear hbf hMd hO
          go_wp2
          rw [Exit.noGoto_ret]
          go_ret3
          exact ⟨by rw [HRZ.out]; rfl, HW.out⟩
    · have hpb : (p == 0) = false := by simpa using hp0
      have HX := Lib.hid (show R = (0, 0, p) from by rw [HD.out, if_neg (by simp), if_pos hp0])
      go_wp2
      rw [Exit.noGoto_ret]
      go_ret3
      exact ⟨by rw [HX.out]; rfl, Q2.out⟩
  · have hsb : (s == 0) = false := by simpa using hs0
    have HX := Lib.hid (show R = (0, 0, s) from by rw [HD.out, if_pos hs0])
    go_wp2
    rw [Exit.noGoto_ret]
    go_ret3
    exact ⟨by rw [HX.out]; rfl, Q1.out⟩
end Go.Proofs.Ytcephfmafmmilaa
