/-
  checkRows.
-/
import Derived.Test.YtcephfmafmmilaaLe
namespace Go.Proofs.Ytcephfmafmmilaa
open Go.RowKit Go.Shelf

def rowsE : List (List Int) → Int
  | [] => 0
  | r :: rs => if checkRow r ≠ 0 then checkRow r else rowsE rs
theorem rows_first : ∀ {ls : List (List Int)} {k : Nat}, k < ls.length → (∀ j, j < k → checkRow (lAt ls j) = 0) → checkRow (lAt ls k) ≠ 0 → rowsE ls = checkRow (lAt ls k)
  | [], k, hk, _, _ => by simp at hk
  | c :: r, 0, _, _, h => by unfold rowsE; rw [if_pos (by simpa [lAt] using h)]; rfl
  | c :: r, k + 1, hk, hj, h => by
    have h0 := hj 0 (by omega)
    have ih := rows_first (ls := r) (k := k) (by simpa using hk) (fun j hjk => by have := hj (j + 1) (by omega); simpa [lAt] using this) (by simpa [lAt] using h)
    unfold rowsE
    rw [if_neg (by simpa [lAt] using h0), ih]
    simp [lAt]
theorem rows_all : ∀ {ls : List (List Int)}, (∀ j, j < ls.length → checkRow (lAt ls j) = 0) → rowsE ls = 0
  | [], _ => rfl
  | c :: r, hj => by
    have h0 := hj 0 (by simp)
    unfold rowsE
    rw [if_neg (by simpa [lAt] using h0)]
    exact rows_all (fun j hjk => by have := hj (j + 1) (by simpa using hjk); simpa [lAt] using this)

set_option maxHeartbeats 1000000 in
set_option maxRecDepth 100000 in
theorem checkRows_any (D : Nat → Prop) (v : Value) (rs : List (List Int)) (w : World) (hv : Lists D w v rs) :
    Calls Try.prog 51 #[v] w fun e w' => e = .returned (.int .i64 (rowsE rs)) ∧ Pure w w' := by
  obtain ⟨a, n, cap, rfl, hn, _, hm, hc⟩ := hv
  have hf : ∀ k, k < n → (∀ j, j < k → checkRow (lAt rs j) = 0) → checkRow (lAt rs k) ≠ 0 → rowsE rs = checkRow (lAt rs k) := fun k hk => rows_first (by omega)
  have ha : (∀ j, j < n → checkRow (lAt rs j) = 0) → rowsE rs = 0 := fun h => rows_all (fun j hj => h j (by omega))
  obtain ⟨R, hRR⟩ : ∃ R, rowsE rs = R := ⟨_, rfl⟩
  rw [hRR] at ha ⊢
  simp only [hRR] at hf
  have HC := Lib.hid hc; have HF := Lib.hid hf; have HA := Lib.hid ha
  clear hRR hn hc hf ha
  go_enter Try.func51, Try.ntmps51
  go_wp2_with fail
  go_loopw [7] (fun i wr => ∃ k : Nat, k ≤ n ∧ i = .int .i64 k ∧ Hid (∀ j, j < k → checkRow (lAt rs j) = 0) ∧ Pure w wr) (fun i _ => n - (intOf i).toNat)
  case atStart => exact ⟨0, by omega, rfl, Lib.hid (fun j hj => by omega), Only.refl _ _⟩
  case round =>
    obtain ⟨k, hk, rfl, hI, hP⟩ := hrel
    by_cases hlt : k < n
    · obtain ⟨b, off, u, rfl, _, c0, hu⟩ := HC.out k hlt
      have k0 := hP.cell c0 (fun f => f)
      have hud := hu.pure hP
      have hcr : checkRow (lAt rs k) = if 60 < (lAt rs k).length then 6 else if withinB 0 10000 (lAt rs k) = false then 3 else 0 := rfl
      obtain ⟨r, hr⟩ : ∃ r, lAt rs k = r := ⟨_, rfl⟩
      rw [hr] at hud hcr
      have hul : ∃ a c, u = .slice a r.length c := by obtain ⟨a, n, c, h, hl, _⟩ := hud; exact ⟨a, c, by rw [h, hl]⟩
      obtain ⟨u1, u3, rfl⟩ := hul
      have hwi := within_any D 0 10000 _ r wr hud
      obtain ⟨len, hlen⟩ : ∃ len, r.length = len := ⟨_, rfl⟩
      rw [hlen] at k0 hwi hcr
      have HCR := Lib.hid hcr; have HR := Lib.hid hr; have HP := Lib.hid hP
      clear c0 hr hu hP hud hcr hlen
      by_cases h60 : 60 < len
      · have HX := Lib.hid (show R = 6 from by rw [HF.out k hlt hI.out (by rw [HR.out, HCR.out, if_pos h60]; decide), HR.out, HCR.out, if_pos h60])
        clear hwi
        go_wp2
        go_ret
        exact ⟨by rw [HX.out]; rfl, HP.out⟩
      · have h60' : len ≤ 60 := by omega
        go_wp2_with fail
        refine hwi.mono ?_
        rintro e w2 ⟨rfl, P2⟩
        have HP2 := Lib.hid (HP.out.trans P2)
        clear hwi P2 k0
        cases hwb : withinB 0 10000 r with
        | false =>
          have HX := Lib.hid (show R = 3 from by rw [HF.out k hlt hI.out (by rw [HR.out, HCR.out, if_neg h60, if_pos hwb]; decide), HR.out, HCR.out, if_neg h60, if_pos hwb])
          clear hwb
          go_wp2
          go_ret
          exact ⟨by rw [HX.out]; rfl, HP2.out⟩
        | true =>
          have HZ := Lib.hid (show checkRow (lAt rs k) = 0 from by rw [HR.out, HCR.out, if_neg h60, if_neg (by rw [hwb]; simp)])
          clear hwb
          go_wp2
          go_roundw
          case rel => exact ⟨k + 1, by omega, by go_num, Lib.hid (fun j hj => by rcases (by omega : j < k ∨ j = k) with h | rfl; exact hI.out j h; exact HZ.out), HP2.out⟩
          case measure => simp [intOf]; omega
    · obtain rfl : k = n := by omega
      have HX := Lib.hid (show R = 0 from HA.out hI.out)
      have HP := Lib.hid hP
      clear hP
      go_wp2
      go_ret
      exact ⟨by rw [HX.out]; rfl, HP.out⟩
end Go.Proofs.Ytcephfmafmmilaa
