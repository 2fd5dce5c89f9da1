/-
  Wait and Late, the functions.
-/
import Derived.Test.YtcephfmafmmilaaMc
namespace Go.Proofs.Ytcephfmafmmilaa
open Go.RowKit Go.Shelf

theorem lateAt_range (c l : List Int) (k : Nat) : ∀ (f u : Nat), k ≤ u → u ≤ 360 → l.length = 361 → k ≤ lateAt c l k f u ∧ lateAt c l k f u ≤ 361
  | 0, u, h1, h2, _ => ⟨h1, by show u ≤ 361; omega⟩
  | f + 1, u, h1, h2, hl => by
    by_cases h : u + 1 < l.length ∧ nAt l u < mostOf c k
    · rw [lateAt_step h]; exact lateAt_range c l k f (u + 1) (by omega) (by omega) hl
    · rw [lateAt_stop h]; omega

set_option maxHeartbeats 2000000 in
set_option maxRecDepth 100000 in
theorem Wait_any (D D1 : Nat → Prop) (v v1 : Value) (c : List Int) (ch : List (List Int)) (w : World) (hv : Ints D w v c) (hv1 : Lists D1 w v1 ch) :
    Calls Try.prog 34 #[v, v1] w fun e w' => e = .returned (.tuple #[.int .i64 (waitR c ch).1, .int .i64 (waitR c ch).2]) ∧ Pure w w' := by
  have hdef : waitR c ch = if openE c ch ≠ 0 then (0, openE c ch) else (bestTo (fun k => mostOf c k - nAt (leasts ch 360) k) 180, 0) := rfl
  have hop := open_any D D1 v v1 c ch w hv hv1
  obtain ⟨a, n, cap, rfl⟩ := hv.form
  obtain ⟨a1, n1, cap1, rfl⟩ : ∃ a n c, v1 = .slice a n c := by obtain ⟨a, n, c, h, _⟩ := hv1; exact ⟨a, n, c, h⟩
  obtain ⟨s, hs⟩ : ∃ s, openE c ch = s := ⟨_, rfl⟩
  obtain ⟨R, hRR⟩ : ∃ R, waitR c ch = R := ⟨_, rfl⟩
  rw [hRR] at hdef ⊢
  rw [hs] at hop hdef
  have HD := Lib.hid hdef
  clear hdef hv hv1 hs hRR
  go_enter Try.func34, Try.ntmps34
  go_wp2_with fail
  refine hop.mono ?_
  rintro e w2 ⟨x, y, rfl, hne, hok, P2⟩
  have HNE := Lib.hid hne; have HOK := Lib.hid hok; have Q2 := Lib.hid P2
  clear hop hne hok P2
  by_cases hs0 : s = 0
  · subst hs0
    obtain ⟨base, hi, b, g, rfl, rfl, hwb, hbh, hhg, hM, hh, hI, hG, hGG, h1⟩ := HOK.out rfl
    have hgl := lt_of_block hh
    obtain ⟨w3, hw3⟩ : ∃ x, x = (w2.alloc (.cells #[.pointer (some ⟨b, 0, none⟩)] 67)).alloc (.cells #[.slice (some ⟨g, 0, none⟩) 361 361] 22) := ⟨_, rfl⟩
    have hP3 : Pure w2 w3 := by rw [hw3]; exact ((Only.refl _ w2).alloc _).alloc _
    have k6 : w3.heap[w2.heap.size]? = some (.cells #[.pointer (some ⟨b, 0, none⟩)] 67) := by
      have h := World.alloc_heap_new w2 (.cells #[.pointer (some ⟨b, 0, none⟩)] 67)
      rw [hw3]; exact (Below.heap_alloc _ _ _ (lt_of_block h)).trans h
    have k7 : w3.heap[w2.heap.size + 1]? = some (.cells #[.slice (some ⟨g, 0, none⟩) 361 361] 22) := by
      have h := World.alloc_heap_new (w2.alloc (.cells #[.pointer (some ⟨b, 0, none⟩)] 67)) (.cells #[.slice (some ⟨g, 0, none⟩) 361 361] 22)
      rw [World.size_alloc] at h
      rw [hw3]; exact h
    have hOW : OpenW (.slice a n cap) c (leasts ch 360) base hi b g w2.heap.size (w2.heap.size + 1) w3 := ⟨hM.pure hP3, hP3.heap hh (fun f => f), hI.pure hP3, k6, k7, by have := hP3.size; omega⟩
    have hL := leasts_len ch 360 h1
    have hLb := leasts_bd (ch := ch) (t := 360) (by omega) h1 hGG
    obtain ⟨B6, hB6⟩ : ∃ B, B = w2.heap.size := ⟨_, rfl⟩
    have hw2s : hi ≤ w2.heap.size := by omega
    have hbest := best_any 61 #[.pointer (some ⟨B6, 0, none⟩), .pointer (some ⟨B6 + 1, 0, none⟩)] (fun k => mostOf c k - nAt (leasts ch 360) k) 180 (fun W => OpenW (.slice a n cap) c (leasts ch 360) base hi b g B6 (B6 + 1) W ∧ Only (fun k => base ≤ k ∧ k < hi) w3 W) (fun k => base ≤ k ∧ k < hi) w3 (enters_of Try.func61 (by kernel_rfl) rfl)
      (fun k W hk hW => (wait1_any _ c _ base hi b g B6 (B6 + 1) k W hG hL hLb hW.1 hhg (by omega) (by omega) hk).mono (fun e W' h => ⟨h.1, ⟨h.2.1, hW.2.trans h.2.2⟩, h.2.2⟩))
      (fun e => by have h1 := e.2; have h2 := hP3.size; omega)
      (fun k hk => by have h1 := mostOf_bd hG.1 hG.2.2 k; have h2 := hLb k; omega)
      ⟨(by rw [hB6]; exact hOW.pure ((Only.refl (fun _ => False) w3).alloc _)), (Only.refl _ w3).alloc _⟩ (by omega)
    obtain ⟨z, hz⟩ : ∃ z, bestTo (fun k => mostOf c k - nAt (leasts ch 360) k) 180 = z := ⟨_, rfl⟩
    rw [hz] at hbest
    have HX := Lib.hid (show R = (z, 0) from by rw [HD.out, if_neg (by simp), hz])
    have HQ := Lib.hid (Q2.out.trans hP3); have HW3 := Lib.hid hw3; have HB6 := Lib.hid hB6
    clear hP3 hh hM hI hG hGG h1 k6 k7 hOW hL hLb hz hw3 hB6 hgl
    go_wp2_with fail
    rw [← HW3.out, ← HB6.out]
    refine hbest.mono ?_
    rintro e w4 ⟨rfl, _, hO⟩
    have HP := Lib.hid (show Pure w w4 from HQ.out.trans' hO (fun i hi e => by have := e.1; omega))
    clear hbest hO
    go_wp2
    go_ret2
    exact ⟨by rw [HX.out]; rfl, HP.out⟩
  · obtain ⟨rfl, rfl⟩ := HNE.out hs0
    have hsb : (s == 0) = false := by simpa using hs0
    have HX := Lib.hid (show R = (0, s) from by rw [HD.out, if_pos hs0])
    go_wp2
    go_ret2
    exact ⟨by rw [HX.out]; rfl, (Q2.out.alloc _).alloc _⟩

set_option maxHeartbeats 2000000 in
set_option maxRecDepth 100000 in
theorem Late_any (D D1 : Nat → Prop) (v v1 : Value) (c : List Int) (ch : List (List Int)) (w : World) (hv : Ints D w v c) (hv1 : Lists D1 w v1 ch) :
    Calls Try.prog 36 #[v, v1] w fun e w' => e = .returned (.tuple #[.int .i64 (lateR c ch).1, .int .i64 (lateR c ch).2]) ∧ Pure w w' := by
  have hdef : lateR c ch = if openE c ch ≠ 0 then (0, openE c ch) else (bestTo (fun k => (lateAt c (leasts ch 360) k 361 k : Int) - k) 180, 0) := rfl
  have hop := open_any D D1 v v1 c ch w hv hv1
  obtain ⟨a, n, cap, rfl⟩ := hv.form
  obtain ⟨a1, n1, cap1, rfl⟩ : ∃ a n c, v1 = .slice a n c := by obtain ⟨a, n, c, h, _⟩ := hv1; exact ⟨a, n, c, h⟩
  obtain ⟨s, hs⟩ : ∃ s, openE c ch = s := ⟨_, rfl⟩
  obtain ⟨R, hRR⟩ : ∃ R, lateR c ch = R := ⟨_, rfl⟩
  rw [hRR] at hdef ⊢
  rw [hs] at hop hdef
  have HD := Lib.hid hdef
  clear hdef hv hv1 hs hRR
  go_enter Try.func36, Try.ntmps36
  go_wp2_with fail
  refine hop.mono ?_
  rintro e w2 ⟨x, y, rfl, hne, hok, P2⟩
  have HNE := Lib.hid hne; have HOK := Lib.hid hok; have Q2 := Lib.hid P2
  clear hop hne hok P2
  by_cases hs0 : s = 0
  · subst hs0
    obtain ⟨base, hi, b, g, rfl, rfl, hwb, hbh, hhg, hM, hh, hI, hG, hGG, h1⟩ := HOK.out rfl
    have hgl := lt_of_block hh
    obtain ⟨w3, hw3⟩ : ∃ x, x = (w2.alloc (.cells #[.pointer (some ⟨b, 0, none⟩)] 67)).alloc (.cells #[.slice (some ⟨g, 0, none⟩) 361 361] 22) := ⟨_, rfl⟩
    have hP3 : Pure w2 w3 := by rw [hw3]; exact ((Only.refl _ w2).alloc _).alloc _
    have k6 : w3.heap[w2.heap.size]? = some (.cells #[.pointer (some ⟨b, 0, none⟩)] 67) := by
      have h := World.alloc_heap_new w2 (.cells #[.pointer (some ⟨b, 0, none⟩)] 67)
      rw [hw3]; exact (Below.heap_alloc _ _ _ (lt_of_block h)).trans h
    have k7 : w3.heap[w2.heap.size + 1]? = some (.cells #[.slice (some ⟨g, 0, none⟩) 361 361] 22) := by
      have h := World.alloc_heap_new (w2.alloc (.cells #[.pointer (some ⟨b, 0, none⟩)] 67)) (.cells #[.slice (some ⟨g, 0, none⟩) 361 361] 22)
      rw [World.size_alloc] at h
      rw [hw3]; exact h
    have hOW : OpenW (.slice a n cap) c (leasts ch 360) base hi b g w2.heap.size (w2.heap.size + 1) w3 := ⟨hM.pure hP3, hP3.heap hh (fun f => f), hI.pure hP3, k6, k7, by have := hP3.size; omega⟩
    have hL := leasts_len ch 360 h1
    have hLb := leasts_bd (ch := ch) (t := 360) (by omega) h1 hGG
    obtain ⟨B6, hB6⟩ : ∃ B, B = w2.heap.size := ⟨_, rfl⟩
    have hw2s : hi ≤ w2.heap.size := by omega
    have hbest := best_any 62 #[.pointer (some ⟨B6 + 1, 0, none⟩), .pointer (some ⟨B6, 0, none⟩)] (fun k => (lateAt c (leasts ch 360) k 361 k : Int) - k) 180 (fun W => OpenW (.slice a n cap) c (leasts ch 360) base hi b g B6 (B6 + 1) W ∧ Only (fun k => base ≤ k ∧ k < hi) w3 W) (fun k => base ≤ k ∧ k < hi) w3 (enters_of Try.func62 (by kernel_rfl) rfl)
      (fun k W hk hW => (late1_any _ c _ base hi b g B6 (B6 + 1) k W hG hL hW.1 hhg (by omega) (by omega) hk).mono (fun e W' h => ⟨h.1, ⟨h.2.2.1, hW.2.trans h.2.2.2⟩, h.2.2.2⟩))
      (fun e => by have h1 := e.2; have h2 := hP3.size; omega)
      (fun k hk => by have h1 := lateAt_range c (leasts ch 360) k 361 k (by omega) (by omega) hL; omega)
      ⟨(by rw [hB6]; exact hOW.pure ((Only.refl (fun _ => False) w3).alloc _)), (Only.refl _ w3).alloc _⟩ (by omega)
    obtain ⟨z, hz⟩ : ∃ z, bestTo (fun k => (lateAt c (leasts ch 360) k 361 k : Int) - k) 180 = z := ⟨_, rfl⟩
    rw [hz] at hbest
    have HX := Lib.hid (show R = (z, 0) from by rw [HD.out, if_neg (by simp), hz])
    have HQ := Lib.hid (Q2.out.trans hP3); have HW3 := Lib.hid hw3; have HB6 := Lib.hid hB6
    clear hP3 hh hM hI hG hGG h1 k6 k7 hOW hL hLb hz hw3 hB6 hgl
    go_wp2_with fail
    rw [← HW3.out, ← HB6.out]
    refine hbest.mono ?_
    rintro e w4 ⟨rfl, _, hO⟩
    have HP := Lib.hid (show Pure w w4 from HQ.out.trans' hO (fun i hi e => by have := e.1; omega))
    clear hbest hO
    go_wp2
    go_ret2
    exact ⟨by rw [HX.out]; rfl, HP.out⟩
  · obtain ⟨rfl, rfl⟩ := HNE.out hs0
    have hsb : (s == 0) = false := by simpa using hs0
    have HX := Lib.hid (show R = (0, s) from by rw [HD.out, if_pos hs0])
    go_wp2
    go_ret2
    exact ⟨by rw [HX.out]; rfl, (Q2.out.alloc _).alloc _⟩
end Go.Proofs.Ytcephfmafmmilaa
