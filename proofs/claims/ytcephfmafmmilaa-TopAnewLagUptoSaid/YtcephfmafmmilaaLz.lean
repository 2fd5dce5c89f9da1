/-
  Came.
-/
import Derived.Test.YtcephfmafmmilaaLy
namespace Go.Proofs.Ytcephfmafmmilaa
open Go.RowKit Go.Shelf

def mostsTo (c : List Int) (k : Nat) : List Int := (List.range k).map (mostOf c)
theorem mostsTo_succ (c : List Int) (k : Nat) : mostsTo c (k + 1) = mostsTo c k ++ [mostOf c k] := by simp [mostsTo, List.range_succ]
theorem mostsTo_len (c : List Int) (k : Nat) : (mostsTo c k).length = k := by simp [mostsTo]
theorem mostsTo_all (c : List Int) (k : Nat) : mostsTo c (k + 1) = mosts c k := by
  apply List.ext_getElem?
  intro i
  by_cases hi : i ≤ k
  · have h1 := mosts_get c k i hi
    unfold nAt at h1
    rw [List.getElem?_eq_getElem (show i < (mosts c k).length by rw [mosts_len]; omega)] at h1 ⊢
    simp only [Option.getD_some] at h1
    rw [h1]
    simp [mostsTo, show i < k + 1 by omega]
  · rw [List.getElem?_eq_none (by rw [mostsTo_len]; omega), List.getElem?_eq_none (by rw [mosts_len]; omega)]
theorem mosts_bd {c : List Int} (hg : GoodC c) (k : Nat) (hk : k ≤ 1000) (i : Nat) : 0 ≤ nAt (mosts c k) i ∧ nAt (mosts c k) i ≤ 1000000 := by
  by_cases hi : i ≤ k
  · rw [mosts_get c k i hi]
    have := mostOf_bd hg.1 hg.2.2 i
    omega
  · simp [nAt, List.getElem?_eq_none (show (mosts c k).length ≤ i by rw [mosts_len]; omega)]

set_option maxHeartbeats 4000000 in
set_option maxRecDepth 100000 in
theorem Came_any (D : Nat → Prop) (v : Value) (c : List Int) (t : Int) (w : World) (hv : Ints D w v c) :
    Calls Try.prog 22 #[v, .int .i64 t] w fun e w' => ∃ x, e = .returned (.tuple #[x, .int .i64 (cameR c t).2]) ∧ w'.ownsRow w.heap.size 2 1 x (cameR c t).1.length ((cameR c t).1.map (.int .i64)) ∧ Pure w w' := by
  have hdef : cameR c t = if checkCurve c ≠ 0 then ([], checkCurve c) else if withinB 0 60 [t] = false then ([], 3) else (stepsOf (mosts c t.toNat), 0) := rfl
  have hC := checkCurve_any D v c w hv
  have hgd := @good_of c
  have hR := hv
  obtain ⟨i0, hi, hz0, hz1, hz2⟩ := info_parts infoI64
  obtain ⟨a, n, cap, rfl⟩ := hv.form
  obtain ⟨s, hs⟩ : ∃ s, checkCurve c = s := ⟨_, rfl⟩
  obtain ⟨R, hRR⟩ : ∃ R, cameR c t = R := ⟨_, rfl⟩
  rw [hRR] at hdef ⊢
  rw [hs] at hC hdef hgd
  have HD := Lib.hid hdef; have HGD := Lib.hid hgd; have HR := Lib.hid hR
  clear hdef hgd hR hv hs hRR
  go_enter Try.func22, Try.ntmps22
  go_wp2_with fail
  refine hC.mono ?_
  rintro e w1 ⟨rfl, P1⟩
  have Q1 := Lib.hid P1
  clear hC P1
  by_cases hs0 : s = 0
  · subst hs0
    have HG := Lib.hid (HGD.out rfl)
    go_wp2_with fail
    refine (within_one 0 60 t _ _ ?_).mono ?_
    · simp
    rintro e w2 ⟨rfl, P2⟩
    have Q2 := Lib.hid (Q1.out.trans P2.of_alloc)
    clear P2
    cases hwi : withinB 0 60 [t] with
    | false =>
      have HX := Lib.hid (show R = ([], 3) from by rw [HD.out, if_neg (by simp), if_pos hwi])
      clear hwi
      go_wp2
      go_ret2
      exact ⟨.slice none 0 0, by rw [HX.out]; rfl, by rw [HX.out]; exact World.ownsRow_nil _ _ _ _, Q2.out⟩
    | true =>
      have hb := within1_iff.1 hwi
      have hX : R = (stepsOf (mosts c t.toNat), 0) := by rw [HD.out, if_neg (by simp), if_neg (by rw [hwi]; simp)]
      obtain ⟨T, rfl⟩ : ∃ k : Nat, t = k := ⟨t.toNat, by omega⟩
      rw [Int.toNat_natCast] at hX
      have hT : T ≤ 60 := by omega
      have hnb := newBoard_any _ _ c w2 (HR.out.pure Q2.out) HG.out
      have HX := Lib.hid hX
      clear hwi hb hX
      go_wp2_with fail
      refine hnb.mono ?_
      rintro e w3 ⟨b, rfl, hM, P3⟩
      have HI := Lib.hid ((HR.out.pure Q2.out).below.pure P3)
      have Q3 := Lib.hid (Q2.out.trans P3); have HM := Lib.hid hM
      have hbl : b < w3.heap.size := hM.lt.2.1
      have hlb : w2.heap.size ≤ b := hM.lt.1
      have hs23 : w2.heap.size ≤ w3.heap.size := P3.size
      have hww : w.heap.size ≤ w2.heap.size := Q2.out.size
      obtain ⟨N, hN⟩ : ∃ N, T + 1 = N := ⟨_, rfl⟩
      have eN : (T : Int) + 1 = N := by omega
      have eW : IntKind.i64.wrap (N : Int) = N := by rw [IntKind.wrap_i64]; omega
      have HN := Lib.hid hN
      have hN61 : N ≤ 61 := by omega
      clear hnb P3 hM hN
      go_wp2_with fail
      go_loopw [25, 8] (fun i al wr => ∃ (k : Nat) (ao : Option Addr) (ac : Nat), k ≤ N ∧ i = .int .i64 k ∧ al = .slice ao k ac ∧ k ≤ ac ∧ ac ≤ maxLen ∧ (ao = none → k = 0 ∧ ac = 0) ∧ Hid (wr.ownsRow w3.heap.size 2 1 (.slice ao k ac) k ((mostsTo c k).map (.int .i64))) ∧ Hid (Made c (.slice a n cap) w2.heap.size w3.heap.size b wr) ∧ Hid (Only (fun k => w2.heap.size ≤ k) w3 wr)) (fun i _ _ => N - (intOf i).toNat)
      case atStart => exact ⟨0, none, 0, Nat.zero_le _, rfl, rfl, Nat.le_refl _, Nat.zero_le _, fun _ => ⟨rfl, rfl⟩, Lib.hid (World.ownsRow_nil _ _ _ _), HM, Lib.hid (Only.refl _ _)⟩
      case round =>
        obtain ⟨k, ao, ac, hk, rfl, rfl, hac, hmx, hao, hrow, hMd, hO⟩ := hrel
        by_cases hlt : k < N
        · have hm := most_made k HG.out (HI.out.keep hO.out (fun j hj h => by omega)) (by omega) hMd.out (by have := hO.out.size; omega)
          have hts := mostsTo_succ c k
          obtain ⟨y, hy⟩ : ∃ y, mostOf c k = y := ⟨_, rfl⟩
          rw [hy] at hm hts
          have HTS := Lib.hid hts
          clear hts hy
          go_wp2_with fail
          refine hm.mono ?_
          rintro e w4 ⟨rfl, hM4, hO4⟩
          have HM4 := Lib.hid hM4
          have HO4 := Lib.hid (hO.out.trans (hO4.mono (fun i _ e => e.1)))
          have hrow4 := owns_keep hrow.out hO4 (fun g hg e => by
            have h2 := owns_lt hrow.out g hg
            omega)
          have HROW := Lib.hid hrow4
          clear hm hM4 hO4 hrow4 hrow hMd hO
          go_wp2_with (at_builtin; refine wpList_append_own_at _ rfl _ _ 22 rfl w3.heap.size 2 i0 (.int .i64 0) 1 8 Try.underlying22 hi hz0 hz1 hz2 rfl (by decide) _ _ _ rfl (owns_pure HROW.out ((Only.refl _ w4).alloc _)) ⟨w4.heap.size, 0, none⟩ 1 1 [_] rfl rfl (cell_one_new _ _ _) ?_ ?_ ?_ ?_ ?_)
          · intro u hu; simp at hu; subst hu; rfl
          · unfold maxLen; omega
          · omega
          · have := HO4.out.size; simp; omega
          intro v' w5 hown hg _ _
          obtain ⟨ao', ac', rfl, hle', hmx', hn', _⟩ := owns_form hown
          have hO5 : Only (fun i => (Value.slice ao k ac).ownBlock = some i) w4 w5 := ((Only.refl (fun i => (Value.slice ao k ac).ownBlock = some i) w4).alloc _).grown hg (fun k e => .inl e)
          have HM5 := Lib.hid (HM4.out.keep hO5 (fun j h1 h2 e => by have := owns_lt HROW.out j e; omega))
          have HO5 := Lib.hid (HO4.out.trans (hO5.mono (fun j _ e => by have := owns_lt HROW.out j e; omega)))
          have HR5 := Lib.hid (show w5.ownsRow w3.heap.size 2 1 (.slice ao' (k + 1) ac') (k + 1) ((mostsTo c (k + 1)).map (.int .i64)) from by rw [HTS.out, List.map_append]; exact hown)
          clear hown hg hO5
          go_wp2
          go_roundw
          case rel => exact ⟨k + 1, ao', ac', by omega, by go_num, rfl, hle', hmx', hn', HR5, HM5, HO5⟩
          case measure => simp [intOf]; omega
        · obtain rfl : N = k := by omega
          have hrw := hrow.out
          rw [show mostsTo c N = mosts c T from by rw [← HN.out, mostsTo_all]] at hrw
          have hkl : N = (mosts c T).length := by rw [mosts_len, HN.out]
          have hst := steps_any _ _ (mosts c T) wr (owns_ints (by rw [← hkl]; exact hrw)) (by rw [mosts_len]; omega) (mosts_bd HG.out T (by omega))
          obtain ⟨l, hl⟩ : ∃ l, stepsOf (mosts c T) = l := ⟨_, rfl⟩
          rw [hl] at hst
          have HX2 := Lib.hid (show R = (l, 0) from by rw [HX.out, hl])
          have HW := Lib.hid (show Pure w wr from Q3.out.trans' hO.out (fun i hi e => by omega))
          clear hrw hkl hl hrow hMd hO
          go_wp2_with fail
          refine hst.mono ?_
          rintro e w6 ⟨x, rfl, o6, P6⟩
          have Q6 := Lib.hid (HW.out.trans P6)
          obtain ⟨ao2, ac2, rfl, _⟩ := owns_form o6
          have O6 := Lib.hid (owns_le o6 HW.out.size)
          clear hst o6 P6
          go_wp2
          go_ret2
          exact ⟨_, by rw [HX2.out]; rfl, by rw [HX2.out]; exact O6.out, Q6.out⟩
  · have hsb : (s == 0) = false := by simpa using hs0
    have HX := Lib.hid (show R = ([], s) from by rw [HD.out, if_pos hs0])
    go_wp2
    go_ret2
    exact ⟨.slice none 0 0, by rw [HX.out]; rfl, by rw [HX.out]; exact World.ownsRow_nil _ _ _ _, Q1.out⟩
end Go.Proofs.Ytcephfmafmmilaa
