/-
  smallest.
-/
import Derived.Test.YtcephfmafmmilaaLk
namespace Go.Proofs.Ytcephfmafmmilaa
open Go.RowKit Go.Shelf

/-- A closure computes f of 0 to n, in every world that grew out of w with what I says. -/
def Of (g : Nat) (lb : Array Value) (f : Nat → Int) (n : Nat) (I : World → Prop) : Prop :=
  ∀ (k : Nat) (w : World), k ≤ n → I w → Calls Try.prog g (#[.int .i64 k] ++ lb) w fun e w' => e = .returned (.int .i64 (f k)) ∧ I w'

set_option maxHeartbeats 1000000 in
set_option maxRecDepth 100000 in
theorem smallest_any (g : Nat) (lb : Array Value) (f : Nat → Int) (n : Nat) (I : World → Prop) (w : World) (hE : ∀ args w, (callFunc g args).run Try.prog w = .ok (.enter g args) w) (hO : Of g lb f n I) (hI : I w) (hn : n ≤ 1000) :
    Calls Try.prog 73 #[.int .i64 n, .func (.func g) #[] lb] w fun e w' => e = .returned (.int .i64 (smallTo f n)) ∧ I w' := by
  have h0 := hO 0 w (by omega) hI
  have hs : ∀ k, smallTo f (k + 1) = min (smallTo f k) (f (k + 1)) := fun k => rfl
  obtain ⟨R, hR⟩ : ∃ R : Nat → Int, R = smallTo f := ⟨_, rfl⟩
  rw [← hR] at hs ⊢
  have hr0 : R 0 = f 0 := by rw [hR]; rfl
  have HS := Lib.hid hs; have HR0 := Lib.hid hr0; have HO := Lib.hid hO; have HE := Lib.hid hE
  clear hR hs hr0 hO hI
  go_enter Try.func73, Try.ntmps73
  go_wp2_with fail
  refine h0.mono ?_
  rintro e w1 ⟨rfl, hI1⟩
  clear h0
  have HI1 := Lib.hid hI1
  clear hI1
  go_wp2_with fail
  go_loopw [6, 5] (fun i o wr => ∃ k : Nat, k ≤ n ∧ i = .int .i64 (k + 1) ∧ o = .int .i64 (R k) ∧ Hid (I wr)) (fun i _ _ => n + 1 - (intOf i).toNat)
  case atStart => exact ⟨0, by omega, by go_num, by rw [HR0.out], HI1⟩
  case round =>
    obtain ⟨k, hk, rfl, rfl, hI⟩ := hrel
    by_cases hlt : k < n
    · have hc := HO.out (k + 1) wr (by omega) hI.out
      have hs := HS.out k
      obtain ⟨x, hx⟩ : ∃ x, R k = x := ⟨_, rfl⟩
      obtain ⟨y, hy⟩ : ∃ y, f (k + 1) = y := ⟨_, rfl⟩
      rw [hy] at hc
      rw [hx, hy] at hs
      rw [hx]
      have HSS := Lib.hid hs
      have e1 : ((k + 1 : Nat) : Int) = (k : Int) + 1 := by push_cast; rfl
      rw [e1] at hc
      clear hs hx hy e1 hI
      go_wp2_with fail
      refine hc.mono ?_
      rintro e w2 ⟨rfl, hI2⟩
      have HI2 := Lib.hid hI2
      clear hc hI2
      by_cases hmn : y < x
      · have HX := Lib.hid (show R (k + 1) = y from by rw [HSS.out]; omega)
        go_wp2
        go_roundw
        case rel => exact ⟨k + 1, by omega, by go_num, by rw [HX.out], HI2⟩
        case measure => simp [intOf]; omega
      · have HX := Lib.hid (show R (k + 1) = x from by rw [HSS.out]; omega)
        go_wp2
        go_roundw
        case rel => exact ⟨k + 1, by omega, by go_num, by rw [HX.out], HI2⟩
        case measure => simp [intOf]; omega
    · obtain rfl : k = n := by omega
      go_wp2
      go_ret
      exact ⟨rfl, hI.out⟩
end Go.Proofs.Ytcephfmafmmilaa
