/-
  least, ratio, greater.
-/
import Derived.Test.YtcephfmafmmilaaLa
namespace Go.Proofs.Ytcephfmafmmilaa
open Go.RowKit Go.Shelf

theorem greater_any (a b : Int × Int) (w : World) (ha : 0 ≤ a.1 ∧ a.1 ≤ 1000 ∧ 0 ≤ a.2 ∧ a.2 ≤ 1000) (hb : 0 ≤ b.1 ∧ b.1 ≤ 1000 ∧ 0 ≤ b.2 ∧ b.2 ≤ 1000) :
    Calls Try.prog 76 #[.agg #[.int .i64 a.1, .int .i64 a.2], .agg #[.int .i64 b.1, .int .i64 b.2]] w fun e w' => e = .returned (.bool (greaterB a b)) ∧ Pure w w' := by
  obtain ⟨a1, a2⟩ := a
  obtain ⟨b1, b2⟩ := b
  dsimp only at *
  have q0 : 0 ≤ a1 * b2 := Int.mul_nonneg (by omega) (by omega)
  have q1 : a1 * b2 ≤ 1000 * 1000 := Int.mul_le_mul (by omega) (by omega) (by omega) (by omega)
  have r0 : 0 ≤ b1 * a2 := Int.mul_nonneg (by omega) (by omega)
  have r1 : b1 * a2 ≤ 1000 * 1000 := Int.mul_le_mul (by omega) (by omega) (by omega) (by omega)
  have E1 := Lib.hid (show wrap64 (a1 * b2) = a1 * b2 from by unfold wrap64; omega)
  have E2 := Lib.hid (show wrap64 (b1 * a2) = b1 * a2 from by unfold wrap64; omega)
  clear ha hb q0 q1 r0 r1
  go_enter Try.func76, Try.ntmps76
  go_wp2
  go_ret
  exact ⟨by first | rfl | (rw [E1.out, E2.out]; rfl), ((Only.refl _ w).alloc _).alloc _⟩

set_option maxHeartbeats 1000000 in
set_option maxRecDepth 100000 in
theorem ratio_any (num den : Int) (w : World) (h0 : 0 ≤ num) (h1 : num ≤ 1000000) (h2 : 1 ≤ den) (h3 : den ≤ 1000000) :
    Calls Try.prog 75 #[.int .i64 num, .int .i64 den] w fun e w' => e = .returned (.agg #[.int .i64 (ratioOf num den).1, .int .i64 (ratioOf num den).2]) ∧ Pure w w' := by
  obtain ⟨R, hR⟩ : ∃ R, ratioOf num den = R := ⟨_, rfl⟩
  have hdef : R = (num / (Int.gcd num den : Nat), den / (Int.gcd num den : Nat)) := hR.symm
  rw [hR]
  have HD := Lib.hid hdef
  have hk := World.alloc_heap_new w (.cells #[.int .i64 0, .int .i64 0] 42)
  have HK := Lib.hid hk
  clear hR hdef hk
  go_enter Try.func75, Try.ntmps75
  go_wp2_with fail
  go_loopw [5, 6] (fun a b wr => ∃ x y : Nat, a = .int .i64 x ∧ b = .int .i64 y ∧ x ≤ 1000000 ∧ y ≤ 1000000 ∧ (0 < x ∨ 0 < y) ∧ Hid (Nat.gcd x y = Int.gcd num den) ∧ wr.heap[w.heap.size]? = some (.cells #[.int .i64 0, .int .i64 0] 42 (0, 0)) ∧ Pure w wr) (fun _ b _ => (intOf b).toNat)
  case atStart => exact ⟨num.toNat, den.toNat, by simp; omega, by simp; omega, by omega, by omega, by omega, Lib.hid (by rw [Int.gcd]; congr 1 <;> omega), HK.out, (Only.refl _ w).alloc _⟩
  case round =>
    obtain ⟨x, y, rfl, rfl, hx, hy, hpos, hg, hb, hP⟩ := hrel
    by_cases hy0 : y = 0
    · subst hy0
      have hg2 : x = Int.gcd num den := by rw [← hg.out]; simp
      have hx0 : ((x : Int) == 0) = false := by have : (x : Int) ≠ 0 := by omega
                                                simpa using this
      have d0 : wr.cell? ⟨w.heap.size, 0, none⟩ = some (.int .i64 0) := cell_of_row _ _ _ _ _ _ hb
      have d1 : wr.cell? ⟨w.heap.size, 1, none⟩ = some (.int .i64 0) := cell_of_row _ _ _ _ _ _ hb
      have f0 : ∀ j, wr.frozen? ⟨w.heap.size, j, none⟩ = false := fun j => arr_frozen hb j
      have HB := Lib.hid hb; have HP := Lib.hid hP
      have HR := Lib.hid (show R = (num / (x : Int), den / (x : Int)) from by rw [HD.out, hg2])
      clear hb hP hg hg2
      go_wp2_with fail
      go_region
      have s1 := heap_setCell_same _ _ 0 _ _ (.int .i64 (num / (x : Int))) HB.out
      have s2 := heap_setCell_same _ _ 1 _ _ (.int .i64 (den / (x : Int))) s1
      have s3 : ((((wr.setCell ⟨w.heap.size, 0, none⟩ (.int .i64 (num / (x : Int)))).setCell ⟨w.heap.size, 1, none⟩ (.int .i64 (den / (x : Int)))).drew).heap[w.heap.size]? = some (.cells #[.int .i64 (num / (x : Int)), .int .i64 (den / (x : Int))] 42 (0, 0))) := s2
      have e0 := cell_of_row _ _ 0 _ _ _ s3
      have e1 := cell_of_row _ _ 1 _ _ _ s3
      simp only [List.getElem?_toArray, List.getElem?_cons_zero, List.getElem?_cons_succ] at e0 e1
      have HO := Lib.hid (Only.drew (Only.setCell (Only.setCell HP.out (.inr (Nat.le_refl _)) (p := ⟨w.heap.size, 0, none⟩) (.int .i64 (num / (x : Int)))) (.inr (Nat.le_refl _)) (p := ⟨w.heap.size, 1, none⟩) (.int .i64 (den / (x : Int)))))
      clear s1 s2 s3
      go_wp2
      refine bodyPost_ret (v := .agg #[.int .i64 (num / (x : Int)), .int .i64 (den / (x : Int))]) ?_ rfl ⟨by rw [HR.out], HO.out⟩
      simp [results, Try.f75, go_sem, e0, e1]
    · have hyy : ((y : Int) == 0) = false := by simpa using hy0
      have em : (x : Int) % y = ((x % y : Nat) : Int) := rfl
      have hlt : x % y < y := Nat.mod_lt _ (by omega)
      obtain ⟨m, hm⟩ : ∃ m, x % y = m := ⟨_, rfl⟩
      rw [hm] at em hlt
      have hgm : Nat.gcd y m = Nat.gcd x y := by rw [← hm, Nat.gcd_comm x y, Nat.gcd_rec y x, Nat.gcd_comm]
      have HG := Lib.hid (hgm.trans hg.out)
      have HB := Lib.hid hb; have HP := Lib.hid hP
      have EM := Lib.hid em
      clear hm hgm hg hb hP em
      go_wp2_with fail
      go_region
      go_wp2
      go_roundw
      case rel => exact ⟨y, m, by go_num, by rw [EM.out], by omega, by have := EM.out; omega, by omega, HG, HB.out, HP.out.drew⟩
      case measure => have := EM.out; simp [intOf]; omega
end Go.Proofs.Ytcephfmafmmilaa
