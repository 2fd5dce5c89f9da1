/-
  The example's curves; Longs.
-/
import Derived.Test.YtcephfmafmmilaaLm
namespace Go.Proofs.Ytcephfmafmmilaa
open Go.RowKit Go.Shelf

theorem of_any (a : Option Addr) (n c : Nat) (w : World) : Calls Try.prog 65 #[.slice a n c] w fun e w' => e = .returned (.slice a n c) ∧ w' = w := by
  go_enter Try.func65, Try.ntmps65
  go_wp2
  go_ret
  exact ⟨rfl, rfl⟩

set_option maxHeartbeats 2000000 in
set_option maxRecDepth 100000 in
theorem longs_any (D D' : Nat → Prop) (v v' : Value) (l : List Int) (w : World) (hv : Ints D w v l) (hv' : Ints D' w v' l) :
    Calls Try.prog 66 #[v, v'] w fun e w' => e = .returned (.bool true) ∧ Pure w w' := by
  obtain ⟨a, n, c, rfl, hn, _, hm, hc⟩ := hv
  obtain ⟨a', n', c', rfl, hn', _, hm', hc'⟩ := hv'
  obtain rfl : n = n' := by omega
  have HC := Lib.hid hc; have HC' := Lib.hid hc'
  clear hc hc' hn hn' hm'
  go_enter Try.func66, Try.ntmps66
  go_wp2_with fail
  go_loopw [5] (fun i wr => ∃ k : Nat, k ≤ n ∧ i = .int .i64 k ∧ Hid (Pure w wr)) (fun i _ => n - (intOf i).toNat)
  case atStart => exact ⟨0, Nat.zero_le _, rfl, Lib.hid (Only.refl _ _)⟩
  case round =>
    obtain ⟨k, hk, rfl, hP⟩ := hrel
    by_cases hlt : k < n
    · obtain ⟨b, off, rfl, _, c0⟩ := HC.out k hlt
      obtain ⟨b', off', rfl, _, c1⟩ := HC'.out k hlt
      have k0 := hP.out.cell c0 (fun f => f)
      have k1 := hP.out.cell c1 (fun f => f)
      clear c0 c1
      go_wp2_with fail
      go_quiet (fail)
      go_wp2
      go_roundw
      case rel => exact ⟨k + 1, by omega, by go_num, Lib.hid (hP.out.drewN _)⟩
      case measure => simp [intOf]; omega
    · go_wp2
      go_ret
      exact ⟨rfl, hP.out⟩
end Go.Proofs.Ytcephfmafmmilaa
