/-
  Two heaps of the same numbers and strings are told as the same.
-/
import Derived.Test.YtcephfmafmmilaaHeap
namespace Go.Proofs.Ytcephfmafmmilaa
open Go.RowKit

/-- Both boxes, as 'same' lays them. -/
def Boxes (w : World) (v1 v2 v3 v4 : Value) (wr : World) : Prop :=
  Only (fun _ => False) w wr ∧ wr.cell? ⟨w.heap.size, 0, none⟩ = some v1 ∧ wr.cell? ⟨w.heap.size, 1, none⟩ = some v2 ∧ wr.cell? ⟨w.heap.size + 1, 0, none⟩ = some v3 ∧ wr.cell? ⟨w.heap.size + 1, 1, none⟩ = some v4
theorem Boxes.drewN {w wr : World} {v1 v2 v3 v4 : Value} (h : Boxes w v1 v2 v3 v4 wr) (n : Nat) : Boxes w v1 v2 v3 v4 (wr.drewN n) := ⟨h.1.drewN n, h.2⟩

set_option maxHeartbeats 1000000 in
set_option maxRecDepth 100000 in
theorem same_any (D : Nat → Prop) (vn vs un us : Value) (ns : List Int) (ss : List ByteArray) (w : World) (h1 : SliceAt D w vn 1 (ns.map (.int .i64))) (h2 : SliceAt D w vs 1 (ss.map .string))
    (h3 : SliceAt D w un 1 (ns.map (.int .i64))) (h4 : SliceAt D w us 1 (ss.map .string)) :
    Calls Try.prog 40 #[.agg #[vn, vs], .agg #[un, us]] w fun e w' => e = .returned (.bool true) ∧ Only (fun _ => False) w w' := by
  obtain ⟨a1, n1, p1, rfl, l1, _, m1, c1⟩ := h1.ints
  obtain ⟨a2, n2, p2, rfl, l2, _, m2, c2⟩ := h2.texts
  obtain ⟨a3, n3, p3, rfl, l3, _, m3, c3⟩ := h3.ints
  obtain ⟨a4, n4, p4, rfl, l4, _, m4, c4⟩ := h4.texts
  obtain rfl : n1 = n3 := by omega
  obtain rfl : n2 = n4 := by omega
  have C1 := Lib.hid c1; have C2 := Lib.hid c2; have C3 := Lib.hid c3; have C4 := Lib.hid c4
  clear h1 h2 h3 h4 c1 c2 c3 c4 l1 l2 l3 l4
  go_enter Try.func40, Try.ntmps40
  go_wp2
  go_loopw [5] (fun i wr => ∃ k : Nat, k ≤ n1 ∧ i = .int .i64 k ∧ Boxes w (.slice a1 n1 p1) (.slice a2 n2 p2) (.slice a3 n1 p3) (.slice a4 n2 p4) wr) (fun i _ => n1 - (intOf i).toNat)
  case atStart =>
    refine ⟨0, Nat.zero_le _, rfl, ((Only.refl _ w).alloc _).alloc _, ?_, ?_, ?_, ?_⟩
    · rw [World.cell?_alloc_past _ _ _ (by simp)]; simp
    · rw [World.cell?_alloc_past _ _ _ (by simp)]; simp
    · simp
    · simp
  case round =>
    obtain ⟨k, hk, rfl, hB⟩ := hrel
    obtain ⟨hO, b1, b2, b3, b4⟩ := hB
    by_cases hlt : k < n1
    · obtain ⟨g1, o1, rfl, _, x1⟩ := C1.out k hlt
      obtain ⟨g3, o3, rfl, _, x3⟩ := C3.out k hlt
      have y1 := hO.cell x1 (fun h => h)
      have y3 := hO.cell x3 (fun h => h)
      clear x1 x3
      go_wp2
      go_quiet (fail)
      go_wp2
      go_roundw
      case rel => exact ⟨k + 1, by omega, by go_num, Boxes.drewN ⟨hO, b1, b2, b3, b4⟩ _⟩
      case measure => simp [intOf]; omega
    · go_wp2
      go_loopw [6] (fun i wr => ∃ k : Nat, k ≤ n2 ∧ i = .int .i64 k ∧ Boxes w (.slice a1 n1 p1) (.slice a2 n2 p2) (.slice a3 n1 p3) (.slice a4 n2 p4) wr) (fun i _ => n2 - (intOf i).toNat)
      case atStart => exact ⟨0, Nat.zero_le _, rfl, hO, b1, b2, b3, b4⟩
      case round =>
        obtain ⟨k2, hk2, rfl, hB2⟩ := hrel
        obtain ⟨hO2, d1, d2, d3, d4⟩ := hB2
        by_cases hlt2 : k2 < n2
        · obtain ⟨g2, o2, rfl, _, x2⟩ := C2.out k2 hlt2
          obtain ⟨g4, o4, rfl, _, x4⟩ := C4.out k2 hlt2
          have y2 := hO2.cell x2 (fun h => h)
          have y4 := hO2.cell x4 (fun h => h)
          clear x2 x4
          go_wp2
          go_quiet (fail)
          go_wp2
          go_roundw
          case rel => exact ⟨k2 + 1, by omega, by go_num, Boxes.drewN ⟨hO2, d1, d2, d3, d4⟩ _⟩
          case measure => simp [intOf]; omega
        · go_wp2
          go_ret
          exact ⟨rfl, hO2⟩
end Go.Proofs.Ytcephfmafmmilaa
