/-
  sums.
-/
import Derived.Test.YtcephfmafmmilaaLf
namespace Go.Proofs.Ytcephfmafmmilaa
open Go.RowKit Go.Shelf

theorem sumTo_succ (r : List Int) (k : Nat) (h : k < r.length) : sumTo r (k + 1) = sumTo r k + nAt r k := by
  unfold sumTo nAt
  rw [List.take_add_one, List.sum_append]
  simp [h]
theorem sumTo_bd {r : List Int} (hb : ∀ i, 0 ≤ nAt r i ∧ nAt r i ≤ 10000) : ∀ k, k ≤ r.length → 0 ≤ sumTo r k ∧ sumTo r k ≤ k * 10000
  | 0, _ => by simp [sumTo]
  | k + 1, h => by have ih := sumTo_bd hb k (by omega); have := hb k; rw [sumTo_succ r k (by omega)]; push_cast; omega
def sumsPart (r : List Int) (k : Nat) : List Int := (List.range (r.length + 1)).map fun t => if t ≤ k then sumTo r t else 0
theorem sumsPart_len (r : List Int) (k : Nat) : (sumsPart r k).length = r.length + 1 := by simp [sumsPart]
theorem sumsPart_zero (r : List Int) : sumsPart r 0 = List.replicate (r.length + 1) 0 := by
  apply List.ext_getElem
  · simp [sumsPart]
  · intro i h1 h2
    simp only [sumsPart, List.getElem_map, List.getElem_range, List.getElem_replicate]
    split
    · rename_i h; obtain rfl : i = 0 := by omega
      simp [sumTo]
    · rfl
theorem sumsPart_set (r : List Int) (k : Nat) : (sumsPart r k).set (k + 1) (sumTo r (k + 1)) = sumsPart r (k + 1) := by
  apply List.ext_getElem
  · simp [sumsPart]
  · intro i h1 h2
    rw [List.getElem_set]
    simp only [sumsPart, List.getElem_map, List.getElem_range]
    split
    · rename_i h; subst h; simp
    · rename_i h
      by_cases hi : i ≤ k
      · rw [if_pos hi, if_pos (by omega)]
      · rw [if_neg hi, if_neg (by omega)]
theorem sumsPart_all (r : List Int) : sumsPart r r.length = sumsOf r := by
  unfold sumsPart sumsOf
  apply List.map_congr_left
  intro t ht
  rw [if_pos (by have := List.mem_range.1 ht; omega)]
theorem sumsPart_get (r : List Int) (k : Nat) (h : k ≤ r.length) : (sumsPart r k)[k]?.getD 0 = sumTo r k := by
  simp [sumsPart, show k < r.length + 1 by omega]
theorem sumsOf_len (r : List Int) : (sumsOf r).length = r.length + 1 := by simp [sumsOf]
theorem sumsOf_get (r : List Int) (k : Nat) (h : k ≤ r.length) : nAt (sumsOf r) k = sumTo r k := by simp [nAt, sumsOf, show k < r.length + 1 by omega]

set_option maxHeartbeats 2000000 in
set_option maxRecDepth 100000 in
theorem sums_any (D : Nat → Prop) (v : Value) (r : List Int) (w : World) (hv : Ints D w v r) (h60 : r.length ≤ 60) (hb : ∀ i, 0 ≤ nAt r i ∧ nAt r i ≤ 10000) :
    Calls Try.prog 52 #[v] w fun e w' => e = .returned (.slice (some ⟨w.heap.size, 0, none⟩) (r.length + 1) (r.length + 1)) ∧ w'.ownsRow w.heap.size 2 1 (.slice (some ⟨w.heap.size, 0, none⟩) (r.length + 1) (r.length + 1)) (r.length + 1) ((sumsOf r).map (.int .i64)) ∧ Pure w w' := by
  obtain ⟨a, n, cap, rfl, hn, _, hm, hc⟩ := hv
  have hsb := fun k hk => sumTo_bd hb k hk
  rw [← hn] at h60 hsb ⊢
  obtain ⟨i0, hi, hz0, hz1, hz2⟩ := info_parts infoI64
  have HC := Lib.hid hc; have HN := Lib.hid hn; have HB := Lib.hid hb; have HSB := Lib.hid hsb
  clear hc hn hb hsb
  obtain ⟨N, hN⟩ : ∃ N, n + 1 = N := ⟨_, rfl⟩
  have eN : (n : Int) + 1 = N := by omega
  have eW : IntKind.i64.wrap (N : Int) = N := by rw [IntKind.wrap_i64]; omega
  rw [hN]
  have HNN := Lib.hid hN
  clear hN
  go_enter Try.func52, Try.ntmps52
  go_wp2_with (at_make; refine wpList_make_full _ rfl _ _ 22 rfl w.heap.size 2 i0 (.int .i64 0) 1 Try.underlying22 hi hz0 hz1 .i64 .i64 _ _ N rfl rfl rfl rfl (by rw [hz2]; have := HNN.out; omega) (by have := HNN.out; unfold maxLen; omega) (Nat.le_refl _) ?_; intro w1 hown hg)
  have hown' := hown
  rw [made_zeros] at hown'
  obtain ⟨wc, hrun, hO, hhc⟩ := run_clear_row (P := Try.prog) w1 22 2 0 (.int .i64 0) Try.underlying22 (Try.zeroValue2 _) rfl rfl w.heap.size 0 N N _ 2 (owns_full hown').1 (by have := HNN.out; omega) (by simp)
  have hz : (((List.replicate N (0 : Int)).map (Value.int .i64)).toArray.toList.take 0 ++ List.replicate N (Value.int .i64 0) ++ ((List.replicate N (0 : Int)).map (Value.int .i64)).toArray.toList.drop (0 + N)).toArray = ((sumsPart r 0).map (Value.int .i64)).toArray := by
    rw [sumsPart_zero, ← HN.out, HNN.out]
    simp
  rw [hz] at hhc
  have HP1 := Lib.hid (show Pure w wc from (pure_of_grown hg).trans' hO (fun i hi e => by omega))
  have HH := Lib.hid hhc
  clear hown hown' hg hO hhc hz
  rw [hrun]
  clear hrun
  go_wp2_with fail
  go_loopw [13] (fun i wr => ∃ k : Nat, k ≤ n ∧ i = .int .i64 k ∧ wr.heap[w.heap.size]? = some (.cells ((sumsPart r k).map (Value.int .i64)).toArray 2 (0, 0)) ∧ Pure w wr) (fun i _ => n - (intOf i).toNat)
  case atStart => exact ⟨0, by omega, rfl, HH.out, HP1.out⟩
  case round =>
    obtain ⟨k, hk, rfl, hh, hP⟩ := hrel
    by_cases hlt : k < n
    · obtain ⟨g, off, rfl, _, c0⟩ := HC.out k hlt
      have k0 := hP.cell c0 (fun f => f)
      have kk := arr_get hh k (by rw [sumsPart_len, ← HN.out]; omega)
      rw [sumsPart_get r k (by rw [← HN.out]; omega)] at kk
      have kn := arr_get hh (k + 1) (by rw [sumsPart_len, ← HN.out]; omega)
      have fr := fun j => arr_frozen hh j
      have hst := arr_store hh (k + 1) (sumTo r (k + 1))
      rw [sumsPart_set] at hst
      have hsu := sumTo_succ r k (by rw [← HN.out]; exact hlt)
      have hbs := HSB.out k (by omega)
      have hbk := HB.out k
      obtain ⟨y, hy⟩ : ∃ y, nAt r k = y := ⟨_, rfl⟩
      rw [show r[k]?.getD 0 = y from hy] at k0
      rw [hy] at hsu hbk
      obtain ⟨x, hx⟩ : ∃ x, sumTo r k = x := ⟨_, rfl⟩
      rw [hx] at kk hsu hbs
      rw [hsu] at hst
      have hk60 : (k : Int) * 10000 ≤ 60 * 10000 := by omega
      obtain ⟨z, hz⟩ : ∃ z, (sumsPart r k)[k + 1]?.getD 0 = z := ⟨_, rfl⟩
      rw [hz] at kn
      have hlN : (k : Int) + 1 < N := by omega
      have hlN2 : (k : Int) < N := by omega
      have HST := Lib.hid hst
      have HO := Lib.hid (Only.setCell hP (.inr (Nat.le_refl _)) (p := ⟨w.heap.size, k + 1, none⟩) (.int .i64 (x + y)))
      clear hst hh hP c0 hy hx hz hsu
      go_wp2
      go_roundw
      case rel => exact ⟨k + 1, by omega, by go_num, HST.out, HO.out⟩
      case measure => simp [intOf]; omega
    · obtain rfl : k = n := by omega
      have hh2 := hh
      have hall : sumsPart r k = sumsOf r := by rw [HN.out]; exact sumsPart_all r
      rw [hall] at hh2
      have HH2 := Lib.hid hh2; have HP := Lib.hid hP
      clear hh hh2 hP hall
      go_wp2
      go_ret
      exact ⟨rfl, owns_mk HH2.out (Nat.le_refl _) (by rw [List.length_map, sumsOf_len, ← HN.out]; exact HNN.out) (by have := HNN.out; unfold maxLen; omega), HP.out⟩
end Go.Proofs.Ytcephfmafmmilaa
