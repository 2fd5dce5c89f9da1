/-
  Checks of a truth; the desk of a valid pool.
-/
import Derived.Test.YtngkmfddamaegaaPg
import Derived.Test.YtngkmfddamaegaaMixed
namespace Go.Proofs.Ytngkmfddamaegaa
open Go.RowKit

def rangeAt (p : Pool) (k : Nat) : Int × Int := p.tickets[k]?.getD (0, 0)
def okAt (p : Pool) (truth : List Int) (k : Nat) : Bool := withinB (rangeAt p k).1 (rangeAt p k).2 [truth[k]?.getD 0]
def checkTruthW (p : Pool) (truth : List Int) : Int := if truth.length ≠ p.tickets.length then 15 else if (List.range p.tickets.length).all (okAt p truth) then 0 else 16

set_option maxHeartbeats 1000000 in
set_option maxRecDepth 100000 in
theorem checkTruth_any (D D' : Nat → Prop) (v tv : Value) (p : Pool) (truth : List Int) (w : World) (hv : PoolAt D w v p) (ht : Ints D' w tv truth) :
    Calls Try.prog 45 #[v, tv] w fun e w' => e = .returned (.int .i64 (checkTruthW p truth)) ∧ Pure w w' := by
  obtain ⟨tk, rfl, a, len, cap, rfl, hlen, _, hm, hc⟩ := hv
  obtain ⟨ta, tlen, tcap, rfl, htlen, _, htm, htc⟩ := ht
  have hP0 : Pure w (w.alloc (Obj.cells #[.slice a len cap, .int .i64 p.per, .int .i64 p.pence, .int .i64 p.keep, .int .i64 p.step] 24)) := (Only.refl _ w).alloc _
  have HL := Lib.hid hlen; have HTL := Lib.hid htlen; have HC := Lib.hid hc; have HTC := Lib.hid htc
  have HP0 := Lib.hid hP0
  clear hlen htlen hc htc hP0
  by_cases hne : tlen = len
  · subst hne
    go_enter Try.func45, Try.ntmps45
    go_wp2_with fail
    go_loopw [16] (fun i wr => ∃ k : Nat, k ≤ tlen ∧ i = .int .i64 k ∧ (∀ j < k, okAt p truth j = true) ∧ Pure w wr) (fun i _ => tlen - (intOf i).toNat)
    case atStart => exact ⟨0, Nat.zero_le _, rfl, fun j hj => by omega, HP0.out⟩
    case round =>
      obtain ⟨k, hk, rfl, hok, hP⟩ := hrel
      have HOK := Lib.hid hok; clear hok
      by_cases hlt : k < tlen
      · obtain ⟨b, off, rfl, _, hcell, hcell2⟩ := HC.out k hlt
        obtain ⟨tb, toff, rfl, _, tcell⟩ := HTC.out k hlt
        have g1 := hP.cell hcell (fun f => f)
        have g2 := hP.cell hcell2 (fun f => f)
        have g3 := hP.cell tcell (fun f => f)
        clear hcell hcell2 tcell
        obtain ⟨lo, hlo⟩ : ∃ x, (p.tickets[k]?.getD (0, 0)).1 = x := ⟨_, rfl⟩
        obtain ⟨hi, hhi⟩ : ∃ x, (p.tickets[k]?.getD (0, 0)).2 = x := ⟨_, rfl⟩
        obtain ⟨tr, htr⟩ : ∃ x, truth[k]?.getD 0 = x := ⟨_, rfl⟩
        rw [hlo] at g1; rw [hhi] at g2; rw [htr] at g3
        have HO := Lib.hid (show okAt p truth k = withinB lo hi [tr] by unfold okAt rangeAt; rw [hlo, hhi, htr])
        clear hlo hhi htr
        have h3 := hP.alloc (.cells #[.int .i64 lo, .int .i64 hi] 50)
        have g4 := (((Only.refl (fun _ => False) wr).alloc (.cells #[.int .i64 lo, .int .i64 hi] 50))).cell g3 (fun f => f)
        have h1' : (wr.alloc (.cells #[.int .i64 lo, .int .i64 hi] 50)).cell? ⟨wr.heap.size, 0, none⟩ = some (.int .i64 lo) := by simp
        have h2' : (wr.alloc (.cells #[.int .i64 lo, .int .i64 hi] 50)).cell? ⟨wr.heap.size, 1, none⟩ = some (.int .i64 hi) := by simp
        have HPP := Lib.hid hP; clear hP h3
        go_wp2_with fail
        have gg1 := fun g => grow_cell h1' g
        have gg2 := fun g => grow_cell h2' g
        have gg3 := fun g => grow_cell g4 g
        refine mixed_start (by kernel_rfl) ?_
        refine mixed_take [0, 1, 2, 3, 4, 5, 6, 7] (by kernel_rfl) (Only.refl _ _).drew (fun d _ _ _ _ h => by cases d <;> exact h) 3 (by kernel_rfl) ?_
        simp only [picks, List.drop_succ_cons, List.drop_zero, List.take_succ_cons, List.take_zero, List.cons_append, List.nil_append]
        repeat (go_big_quiet_step (fail))
        refine wpQuiet_nil ?_
        refine mixed_force (i := 8) (by kernel_rfl) rfl ?_
        go_wp2_with fail
        refine ⟨(Only.refl _ _).drew.alloc _, ?_⟩
        refine mixed_force (i := 9) (by kernel_rfl) rfl ?_
        go_wp2_with fail
        refine (within_one lo hi tr _ _ ?_).mono ?_
        · simp
        rintro e w5 ⟨rfl, P5⟩
        have P6 := Lib.hid (((Only.refl (fun _ => False) (wr.alloc (.cells #[.int .i64 lo, .int .i64 hi] 50))).drew.alloc (.cells #[.int .i64 tr] 2)).trans P5)
        have P7 := Lib.hid ((HPP.out.alloc (.cells #[.int .i64 lo, .int .i64 hi] 50)).trans P6.out)
        clear P5
        cases hwi : withinB lo hi [tr] with
        | true =>
          rw [hwi] at HO
          go_wp2_with fail
          refine ⟨P6.out, ?_⟩
          refine mixed_force (i := 10) (by kernel_rfl) rfl ?_
          go_wp2_with fail
          refine ⟨P6.out, wpAnyG_done (by kernel_rfl) ?_⟩
          go_wp2
          go_roundw
          case rel => exact ⟨k + 1, by omega, by go_num, fun j hj => by rcases (by omega : j < k ∨ j = k) with h | rfl; exact HOK.out j h; exact HO.out, P7.out⟩
          case measure => simp [intOf]; omega
        | false =>
          rw [hwi] at HO
          go_wp2_with fail
          refine ⟨P6.out, ?_⟩
          refine mixed_force (i := 10) (by kernel_rfl) rfl ?_
          go_wp2_with fail
          refine ⟨P6.out, wpAnyG_done (by kernel_rfl) ?_⟩
          go_wp2
          go_ret
          have hW : checkTruthW p truth = 16 := by
            unfold checkTruthW
            rw [if_neg (by rw [← HL.out, ← HTL.out]; simp), if_neg (fun h => by
              have := List.all_eq_true.1 h k (List.mem_range.2 (by rw [← HL.out]; exact hlt))
              rw [HO.out] at this; cases this)]
          exact ⟨by rw [hW]; rfl, P7.out⟩
      · have HPP := Lib.hid hP; clear hP
        go_wp2
        go_ret
        have hW : checkTruthW p truth = 0 := by
          unfold checkTruthW
          rw [if_neg (by rw [← HL.out, ← HTL.out]; simp), if_pos (List.all_eq_true.2 fun j hj => HOK.out j (by have := List.mem_range.1 hj; rw [← HL.out] at this; omega))]
        exact ⟨by rw [hW]; rfl, HPP.out⟩
  · have hne' : (tlen : Int) ≠ len := by omega
    go_enter Try.func45, Try.ntmps45
    go_wp2
    go_ret
    have hW : checkTruthW p truth = 15 := by
      unfold checkTruthW
      rw [if_pos (by rw [← HL.out, ← HTL.out]; exact hne)]
    exact ⟨by rw [hW]; rfl, HP0.out⟩
end Go.Proofs.Ytngkmfddamaegaa
