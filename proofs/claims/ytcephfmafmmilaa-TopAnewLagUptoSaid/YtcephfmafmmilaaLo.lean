/-
  steps.
-/
import Derived.Test.YtcephfmafmmilaaLn
namespace Go.Proofs.Ytcephfmafmmilaa
open Go.RowKit Go.Shelf

def stepsTo (s : List Int) (k : Nat) : List Int := (List.range k).map fun t => nAt s (t + 1) - nAt s t
theorem stepsTo_succ (s : List Int) (k : Nat) : stepsTo s (k + 1) = stepsTo s k ++ [nAt s (k + 1) - nAt s k] := by simp [stepsTo, List.range_succ]
theorem stepsTo_len (s : List Int) (k : Nat) : (stepsTo s k).length = k := by simp [stepsTo]

set_option maxHeartbeats 4000000 in
set_option maxRecDepth 100000 in
theorem steps_any (D : Nat → Prop) (v : Value) (s : List Int) (w : World) (hv : Ints D w v s) (h400 : s.length ≤ 400) (hb : ∀ i, 0 ≤ nAt s i ∧ nAt s i ≤ 1000000) :
    Calls Try.prog 53 #[v] w fun e w' => ∃ v', e = .returned v' ∧ w'.ownsRow w.heap.size 2 1 v' (stepsOf s).length ((stepsOf s).map (.int .i64)) ∧ Pure w w' := by
  obtain ⟨a, n, cap, rfl, hn, _, hm, hc⟩ := hv
  obtain ⟨i0, hi, hz0, hz1, hz2⟩ := info_parts infoI64
  obtain ⟨M, hM⟩ : ∃ M, s.length - 1 = M := ⟨_, rfl⟩
  have hdef : stepsOf s = stepsTo s M := by rw [← hM]; rfl
  rw [hdef, stepsTo_len]
  rw [← hn] at hM h400
  have HM := Lib.hid hM; have HC := Lib.hid hc; have HB := Lib.hid hb
  clear hM hc hb hn hdef
  go_enter Try.func53, Try.ntmps53
  go_wp2_with fail
  go_loopw [4, 3] (fun i al wr => ∃ (k : Nat) (ao : Option Addr) (ac : Nat), k ≤ M ∧ i = .int .i64 (k + 1) ∧ al = .slice ao k ac ∧ k ≤ ac ∧ (ao = none → k = 0) ∧ Hid (wr.ownsRow w.heap.size 2 1 (.slice ao k ac) k ((stepsTo s k).map (.int .i64))) ∧ Hid (Pure w wr)) (fun i _ _ => M + 1 - (intOf i).toNat)
  case atStart => exact ⟨0, none, 0, Nat.zero_le _, by go_num, rfl, Nat.le_refl _, fun _ => rfl, Lib.hid (World.ownsRow_nil _ _ _ _), Lib.hid (Only.refl _ _)⟩
  case round =>
    obtain ⟨k, ao, ac, hk, rfl, rfl, hac, hao, hrow, hP⟩ := hrel
    by_cases hlt : k < M
    · have hk1 : k + 1 < n := by have := HM.out; omega
      obtain ⟨g, off, rfl, _, c1⟩ := HC.out (k + 1) hk1
      obtain ⟨g', off', he, _, c0⟩ := HC.out k (by omega)
      simp only [Option.some.injEq, Addr.mk.injEq, and_true] at he
      obtain ⟨rfl, rfl⟩ := he
      have k1 := hP.out.cell c1 (fun f => f)
      have k0 := hP.out.cell c0 (fun f => f)
      have hts := stepsTo_succ s k
      have b1 := HB.out (k + 1); have b0 := HB.out k
      obtain ⟨x, hx⟩ : ∃ x, nAt s (k + 1) = x := ⟨_, rfl⟩
      obtain ⟨y, hy⟩ : ∃ y, nAt s k = y := ⟨_, rfl⟩
      rw [show s[k + 1]?.getD 0 = x from hx] at k1
      rw [show s[k]?.getD 0 = y from hy] at k0
      rw [hx, hy] at hts
      rw [hx] at b1; rw [hy] at b0
      obtain ⟨q, hq⟩ : ∃ q, k + 1 = q := ⟨_, rfl⟩
      rw [hq] at k1 hk1
      have e0 : (k : Int) + 1 = q := by omega
      have e1 : (q : Int) - 1 = k := by omega
      have e2 : IntKind.i64.wrap (k : Int) = k := by rw [IntKind.wrap_i64]; omega
      have e3 : IntKind.i64.wrap (q : Int) = q := by rw [IntKind.wrap_i64]; omega
      have hkn : k < n := by omega
      rw [e0]
      have HTS := Lib.hid hts; have HQ := Lib.hid hq; have HE := Lib.hid e0
      have g0 := fun g => grow_cell k0 g; have g1 := fun g => grow_cell k1 g
      clear hts hx hy c1 c0 hq e0
      go_wp2_with fail
      refine mixed_start (by kernel_rfl) ?_
      refine mixed_take [0, 1, 2, 3, 4, 5, 6, 7, 8, 9, 10, 11, 12, 13, 14, 15] (by kernel_rfl) (Only.refl _ _).drew (fun d _ _ _ _ h => by cases d <;> exact h) 3 (by kernel_rfl) ?_
      simp only [picks, List.drop_succ_cons, List.drop_zero, List.take_succ_cons, List.take_zero, List.cons_append, List.nil_append]
      repeat (go_big_quiet_step (fail))
      refine wpQuiet_nil ?_
      refine mixed_force (i := 16) (by kernel_rfl) rfl ?_
      go_wp2_with fail
      refine ⟨(Only.refl _ _).drew.alloc _, ?_⟩
      refine mixed_force (i := 17) (by kernel_rfl) rfl ?_
      refine wpList_append_grows _ rfl _ _ 22 rfl 2 i0 (.int .i64 0) 1 8 Try.underlying22 hi hz0 hz1 hz2 rfl (by decide) ao k k ((stepsTo s k).map (.int .i64)) rfl ?_ ?_ (owns_cells hrow.out ((Only.refl _ wr).drew.alloc _)) ⟨wr.heap.size, 0, none⟩ 1 1 [.int .i64 (x - y)] rfl rfl ?_ ?_ ?_ ?_ ?_ ?_
      · exact fun h => ⟨hao h, hao h⟩
      · rw [List.length_map, stepsTo_len]; omega
      · exact cell_one_new _ _ _
      · intro u hu; simp at hu; subst hu; rfl
      · omega
      · unfold maxLen; omega
      · omega
      intro v' w3 hown hg
      obtain ⟨ao', ac', rfl, hle', _, hn', _⟩ := owns_form hown
      have hP3 := pure_of_grown hg
      have HR := Lib.hid (show w3.ownsRow w.heap.size 2 1 (.slice ao' (k + 1) ac') (k + 1) ((stepsTo s (k + 1)).map (.int .i64)) from by
        rw [HTS.out, List.map_append]; exact owns_le hown (by have := hP.out.size; simp; omega))
      have Q3 := Lib.hid (hP.out.trans (((Only.refl _ wr).drew.alloc (.cells #[.int .i64 (x - y)] 2)).trans hP3))
      have Q4 := Lib.hid (((Only.refl (fun _ => False) wr).drew.alloc (.cells #[.int .i64 (x - y)] 2)).trans hP3)
      clear hown hg hP3 k0 k1 g0 g1
      go_wp2_with fail
      refine ⟨Q4.out, ?_⟩
      refine mixed_take [18] (by kernel_rfl) Q4.out (fun d _ _ _ _ h => by cases d <;> exact h) 0 (by kernel_rfl) ?_
      simp only [picks, List.drop_succ_cons, List.drop_zero, List.take_succ_cons, List.take_zero, List.cons_append, List.nil_append]
      repeat (go_big_quiet_step (fail))
      refine wpQuiet_nil ?_
      refine wpAnyG_done (by kernel_rfl) ?_
      go_wp2
      go_roundw
      case rel => exact ⟨k + 1, ao', ac', by omega, by have := HQ.out; go_num, rfl, hle', (fun h => (hn' h).1), HR, Q3⟩
      case measure => simp [intOf]; omega
    · obtain rfl : k = M := by omega
      have hkn : n ≤ k + 1 := by have := HM.out; omega
      go_wp2
      go_ret
      exact ⟨_, rfl, hrow.out, hP.out⟩
end Go.Proofs.Ytcephfmafmmilaa
