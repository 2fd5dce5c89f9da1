/-
  Serve, Late.
-/
import Derived.Test.YtbiffhekbnmffaaCp
namespace Go.Proofs.Ytbiffhekbnmffaa
open Go.RowKit Go.Shelf

def truthOk (h : Hall) (truth : List Int) (i : Nat) : Bool := withinB (pAt h.people i).lo (pAt h.people i).hi [truth[i]?.getD 0]

set_option maxHeartbeats 4000000 in
set_option maxRecDepth 100000 in
theorem Serve_any (D D' : Nat → Prop) (pv tv : Value) (h : Hall) (k : Int) (truth : List Int) (w : World) (hv : People D w pv h.people) (ht : Ints D' w tv truth) :
    Calls Try.prog 26 #[.agg #[.int .i64 h.minutes, pv], .int .i64 k, tv] w fun e w' => ∃ v, e = .returned (.tuple #[v, .int .i64 (serveR h k truth).2.1, .int .i64 (serveR h k truth).2.2]) ∧ w'.ownsRow w.heap.size 2 1 v (serveR h k truth).1.length ((serveR h k truth).1.map (.int .i64)) ∧ Pure w w' := by
  have hP0 : Pure w (w.alloc (Obj.cells #[.int .i64 h.minutes, pv] 24)) := (Only.refl _ w).alloc _
  have hC := staffed_any D pv h k _ (hv.pure hP0)
  have hS := @staffed_of h k
  have hdef : serveR h k truth = if staffedE h k ≠ 0 then ([], 0, staffedE h k) else if truth.length ≠ h.people.length then ([], 0, 15) else if (List.range h.people.length).all (truthOk h truth) = false then ([], 0, 3) else ((serveOf h k.toNat truth).1, (serveOf h k.toNat truth).2, 0) := rfl
  have HT := Lib.hid ht
  obtain ⟨a, len, cap, rfl, hlen, _, hm, hc⟩ := hv
  obtain ⟨ta, tlen, tcap, rfl, htlen, _, htm, htc⟩ := ht
  obtain ⟨s, hs⟩ : ∃ s, staffedE h k = s := ⟨_, rfl⟩
  rw [hs] at hC hS hdef
  obtain ⟨R, hRR⟩ : ∃ R, serveR h k truth = R := ⟨_, rfl⟩
  rw [hRR] at hdef ⊢
  have HD := Lib.hid hdef; have HS := Lib.hid hS; have HL := Lib.hid hlen; have HTL := Lib.hid htlen; have HC := Lib.hid hc; have HTC := Lib.hid htc
  clear hs hRR hdef hS hlen htlen hc htc
  go_enter Try.func26, Try.ntmps26
  go_wp2_with fail
  refine hC.mono ?_
  rintro e w1 (⟨h0, rfl, P1⟩ | ⟨rfl, b, rfl, hb, hF, P1⟩)
  · have Q1 := hP0.trans P1
    have HR := Lib.hid (show R = ([], 0, s) from by rw [HD.out, if_pos h0])
    clear hC P1 hP0
    go_wp2
    go_ret3
    exact ⟨.slice none 0 0, by rw [HR.out]; rfl, by rw [HR.out]; exact World.ownsRow_nil _ _ _ _, Q1⟩
  · have Q1 := hP0.trans P1
    have d1 := P1.cell (p := ⟨w.heap.size, 1, none⟩) (v := .slice a len cap) (by simp) (fun f => f)
    have HF := Lib.hid hF
    obtain ⟨hval, hk0, hk30⟩ := HS.out rfl
    obtain ⟨v1, v60, v30, _⟩ := valid_of hval
    obtain ⟨kn, rfl⟩ : ∃ n : Nat, k = n := ⟨k.toNat, by omega⟩
    clear hC P1 hP0 hF hval
    by_cases hne : tlen = len
    · subst hne
      go_wp2_with fail
      go_loopw [34] (fun i wr => ∃ q : Nat, q ≤ tlen ∧ i = .int .i64 q ∧ Hid (∀ j < q, truthOk h truth j = true) ∧ wr.cell? ⟨w.heap.size, 1, none⟩ = some (.slice a tlen cap) ∧ Pure w1 wr) (fun i _ => tlen - (intOf i).toNat)
      case atStart => exact ⟨0, Nat.zero_le _, rfl, Lib.hid (fun j hj => by omega), d1, Only.refl _ _⟩
      case round =>
        clear d1
        obtain ⟨q, hq, rfl, hok, d1, hP⟩ := hrel
        by_cases hlt : q < tlen
        · obtain ⟨g, off, rfl, _, c0, c1, c2⟩ := HC.out q hlt
          obtain ⟨g2, off2, rfl, _, c3⟩ := HTC.out q hlt
          have Q := Q1.trans hP
          have k0 := Q.cell c0 (fun f => f)
          have k1 := Q.cell c1 (fun f => f)
          have k3 := Q.cell c3 (fun f => f)
          have hto : truthOk h truth q = withinB (pAt h.people q).lo (pAt h.people q).hi [truth[q]?.getD 0] := rfl
          obtain ⟨p, hp⟩ : ∃ p, pAt h.people q = p := ⟨_, rfl⟩
          obtain ⟨x, hx⟩ : ∃ x, truth[q]?.getD 0 = x := ⟨_, rfl⟩
          rw [hp] at k0 k1 hto
          rw [hx] at k3 hto
          have HTO := Lib.hid hto
          have HP := Lib.hid hP
          clear hp hx hto c0 c1 c2 c3 Q hP
          go_wp2_with fail
          have g0 := fun g => grow_cell d1 g; have g1 := fun g => grow_cell k0 g; have g2 := fun g => grow_cell k1 g
          refine mixed_start (by kernel_rfl) ?_
          refine mixed_take [0, 1, 2, 3, 4, 5, 6, 7, 8, 9, 10, 11, 12, 13, 14] (by kernel_rfl) (Only.refl _ _).drew (fun d _ _ _ _ h => by cases d <;> exact h) 3 (by kernel_rfl) ?_
          simp only [picks, List.drop_succ_cons, List.drop_zero, List.take_succ_cons, List.take_zero, List.cons_append, List.nil_append]
          repeat (go_big_quiet_step (fail))
          refine wpQuiet_nil ?_
          refine mixed_force (i := 15) (by kernel_rfl) rfl ?_
          go_wp2_with fail
          refine ⟨(Only.refl _ _).drew.alloc _, ?_⟩
          refine mixed_force (i := 16) (by kernel_rfl) rfl ?_
          go_wp2_with fail
          refine (within_one p.lo p.hi x _ _ ?_).mono ?_
          · simp
          rintro e w5 ⟨rfl, P5⟩
          have P6 := Lib.hid (((Only.refl (fun _ => False) wr).drew.alloc (.cells #[.int .i64 x] 2)).trans P5)
          clear P5 g0 g1 g2
          cases hwi : withinB p.lo p.hi [x] with
          | true =>
            have HW := Lib.hid hwi; clear hwi
            have d1' := P6.out.cell d1 (fun f => f)
            go_wp2_with fail
            refine ⟨P6.out, ?_⟩
            refine mixed_force (i := 17) (by kernel_rfl) rfl ?_
            go_wp2_with fail
            refine ⟨P6.out, wpAnyG_done (by kernel_rfl) ?_⟩
            go_wp2
            go_roundw
            case rel => exact ⟨q + 1, by omega, by go_num, Lib.hid (fun j hj => by rcases (by omega : j < q ∨ j = q) with h | rfl; exact hok.out j h; rw [HTO.out, HW.out]), d1', HP.out.trans P6.out⟩
            case measure => simp [intOf]; omega
          | false =>
            have HW := Lib.hid hwi; clear hwi
            have HR := Lib.hid (show R = ([], 0, 3) from by rw [HD.out, if_neg (by simp), if_neg (by rw [← HTL.out, ← HL.out]; simp), if_pos (all_range (k := q) (by rw [← HL.out]; exact hlt) (by rw [HTO.out, HW.out]))])
            go_wp2_with fail
            refine ⟨P6.out, ?_⟩
            refine mixed_force (i := 17) (by kernel_rfl) rfl ?_
            go_wp2_with fail
            refine ⟨P6.out, wpAnyG_done (by kernel_rfl) ?_⟩
            go_wp2
            go_ret3
            exact ⟨.slice none 0 0, by rw [HR.out]; rfl, by rw [HR.out]; exact World.ownsRow_nil _ _ _ _, (Q1.trans HP.out).trans P6.out⟩
        · have hsv := serve_any D D' b h kn truth _ wr (HF.out.pure hP) (HT.out.pure (Q1.trans hP)) (by rw [← HTL.out, ← HL.out]) v30 v1 v60 (by omega)
          have hR : R = ((serveOf h kn truth).1, (serveOf h kn truth).2, 0) := by
            rw [HD.out, if_neg (by simp), if_neg (by rw [← HTL.out, ← HL.out]; simp), if_neg (by rw [all_range_true (fun j hj => hok.out j (by rw [← HL.out] at hj; omega))]; simp), Int.toNat_natCast]
          have hol := serveOf_len h kn truth
          obtain ⟨⟨o, sh⟩, hso⟩ : ∃ p, serveOf h kn truth = p := ⟨_, rfl⟩
          rw [hso] at hsv hR hol
          dsimp only at hsv hol
          rw [← hol] at hsv
          have HR := Lib.hid hR
          have HQ := Lib.hid (Q1.trans hP)
          clear hR hol hso hP hok d1
          go_wp2_with fail
          refine hsv.mono ?_
          rintro e w3 ⟨v, rfl, ho, P3⟩
          obtain ⟨ao, ac, rfl, _⟩ := owns_form ho
          have HO := Lib.hid ho; have HP3 := Lib.hid P3
          clear hsv ho P3
          go_wp2
          go_ret3
          exact ⟨_, by rw [HR.out]; rfl, by rw [HR.out]; exact owns_le HO.out HQ.out.size, HQ.out.trans HP3.out⟩
    · have hne' : (tlen : Int) ≠ len := by omega
      have HR := Lib.hid (show R = ([], 0, 15) from by rw [HD.out, if_neg (by simp), if_pos (by rw [← HTL.out, ← HL.out]; exact hne)])
      go_wp2
      go_ret3
      exact ⟨.slice none 0 0, by rw [HR.out]; rfl, by rw [HR.out]; exact World.ownsRow_nil _ _ _ _, Q1⟩
end Go.Proofs.Ytbiffhekbnmffaa
