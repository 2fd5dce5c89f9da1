/-
  Parts of the proof: Of, Oj, Ok, On, Oo, Ol, Op, Oq, Entry, Or.
-/
import Derived.Test.YthnjfekkngpbjaaJb
/- Two results of type Ratio; Near; Round. -/
namespace Go.Proofs.Ythnjfekkngpbjaa
open Go.RowKit Go.Shelf

theorem two23 {W : World} {b c : Nat} {x y z t : Int} (hb : W.heap[b]? = some (.cells #[.int .i64 x, .int .i64 y] 23)) (hc : W.heap[c]? = some (.cells #[.int .i64 z, .int .i64 t] 23)) (hne : b ≠ c) (u v : Fr) :
    ((((W.setCell ⟨b, 0, none⟩ (.int .i64 u.1)).setCell ⟨b, 1, none⟩ (.int .i64 u.2)).cell? ⟨c, 0, none⟩ = some (.int .i64 z) ∧ ((W.setCell ⟨b, 0, none⟩ (.int .i64 u.1)).setCell ⟨b, 1, none⟩ (.int .i64 u.2)).cell? ⟨c, 1, none⟩ = some (.int .i64 t) ∧ ∀ j, ((W.setCell ⟨b, 0, none⟩ (.int .i64 u.1)).setCell ⟨b, 1, none⟩ (.int .i64 u.2)).frozen? ⟨c, j, none⟩ = false)) ∧
    (((((W.setCell ⟨b, 0, none⟩ (.int .i64 u.1)).setCell ⟨b, 1, none⟩ (.int .i64 u.2)).setCell ⟨c, 0, none⟩ (.int .i64 v.1)).setCell ⟨c, 1, none⟩ (.int .i64 v.2)).cell? ⟨b, 0, none⟩ = some (.int .i64 u.1) ∧
     ((((W.setCell ⟨b, 0, none⟩ (.int .i64 u.1)).setCell ⟨b, 1, none⟩ (.int .i64 u.2)).setCell ⟨c, 0, none⟩ (.int .i64 v.1)).setCell ⟨c, 1, none⟩ (.int .i64 v.2)).cell? ⟨b, 1, none⟩ = some (.int .i64 u.2) ∧
     ((((W.setCell ⟨b, 0, none⟩ (.int .i64 u.1)).setCell ⟨b, 1, none⟩ (.int .i64 u.2)).setCell ⟨c, 0, none⟩ (.int .i64 v.1)).setCell ⟨c, 1, none⟩ (.int .i64 v.2)).cell? ⟨c, 0, none⟩ = some (.int .i64 v.1) ∧
     ((((W.setCell ⟨b, 0, none⟩ (.int .i64 u.1)).setCell ⟨b, 1, none⟩ (.int .i64 u.2)).setCell ⟨c, 0, none⟩ (.int .i64 v.1)).setCell ⟨c, 1, none⟩ (.int .i64 v.2)).cell? ⟨c, 1, none⟩ = some (.int .i64 v.2)) ∧
    Only (fun k => k = b ∨ k = c) W ((W.setCell ⟨b, 0, none⟩ (.int .i64 u.1)).setCell ⟨b, 1, none⟩ (.int .i64 u.2)) ∧
    Only (fun k => k = b ∨ k = c) W ((((W.setCell ⟨b, 0, none⟩ (.int .i64 u.1)).setCell ⟨b, 1, none⟩ (.int .i64 u.2)).setCell ⟨c, 0, none⟩ (.int .i64 v.1)).setCell ⟨c, 1, none⟩ (.int .i64 v.2)) := by
  obtain ⟨s3, _, _, hO3⟩ := cell23 hb u.1 u.2
  have hc3 := hO3.heap hc (fun e => hne e.symm)
  obtain ⟨s4, c0, c1, hO4⟩ := cell23 hc3 v.1 v.2
  obtain ⟨b0, b1, _⟩ := read23 (hO4.heap s3 hne)
  exact ⟨read23 hc3, ⟨b0, b1, c0, c1⟩, hO3.mono (fun k _ e => .inl e), (hO3.mono (S' := fun k => k = b ∨ k = c) (fun k _ e => .inl e)).trans (hO4.mono (fun k _ e => .inr e))⟩

theorem nearR_bad {r : Fr} {step : Int} (h : askedE r step ≠ 0) : nearR r step = ((0, 0), (0, 0), askedE r step) := by unfold nearR; rw [if_pos h]
theorem nearR_ok {r : Fr} {step : Int} (h : askedE r step = 0) : nearR r step = ((nearOf r step).1, (nearOf r step).2, 0) := by unfold nearR; rw [if_neg (fun k => k h)]

set_option maxHeartbeats 2000000 in
set_option maxRecDepth 100000 in
theorem Near_any (r : Fr) (step : Int) (w : World) : Calls Try.prog 7 #[(Value.agg #[Value.int IntKind.i64 (Prod.fst (r)), Value.int IntKind.i64 (Prod.snd (r))]), .int .i64 step] w fun e w' => e = .returned (.tuple #[(Value.agg #[Value.int IntKind.i64 (Prod.fst ((nearR r step).1)), Value.int IntKind.i64 (Prod.snd ((nearR r step).1))]), (Value.agg #[Value.int IntKind.i64 (Prod.fst ((nearR r step).2.1)), Value.int IntKind.i64 (Prod.snd ((nearR r step).2.1))]), .int .i64 (nearR r step).2.2]) ∧ Pure w w' := by
  obtain ⟨w3, hw3⟩ : ∃ x, x = ((w.alloc (.cells #[.int .i64 r.1, .int .i64 r.2] 23)).alloc (.cells #[.int .i64 0, .int .i64 0] 23)).alloc (.cells #[.int .i64 0, .int .i64 0] 23) := ⟨_, rfl⟩
  have hP3 : Pure w w3 := by rw [hw3]; exact lay_pure [_, _, _] w
  have k0 : w3.heap[w.heap.size]? = some (.cells #[.int .i64 r.1, .int .i64 r.2] 23) := by rw [hw3]; exact lay_row [_, _, _] w 0 _ rfl
  have k1 : w3.heap[w.heap.size + 1]? = some (.cells #[.int .i64 0, .int .i64 0] 23) := by rw [hw3]; exact lay_row [_, _, _] w 1 _ rfl
  have k2 : w3.heap[w.heap.size + 1 + 1]? = some (.cells #[.int .i64 0, .int .i64 0] 23) := by rw [hw3]; exact lay_row [_, _, _] w 2 _ rfl
  have HW := Lib.hid hw3; have HP := Lib.hid hP3; have K0 := Lib.hid k0; have K1 := Lib.hid k1; have K2 := Lib.hid k2
  clear hw3 hP3 k0 k1 k2
  have hask := fun W => asked_any r step W
  by_cases he : askedE r step = 0
  · rw [nearR_ok he]
    rw [he] at hask
    have HASK := Lib.hid hask
    clear hask
    obtain ⟨q1, q2, q3, q4, q5, q6⟩ := asked_zero he
    have hnear := fun W => near_any r step W (by omega) q5 q6
    obtain ⟨R, hR⟩ : ∃ R, nearOf r step = R := ⟨_, rfl⟩
    rw [hR] at hnear ⊢
    have HN := Lib.hid hnear
    clear hnear hR he q1 q2 q3 q4 q5 q6
    go_enter Try.func7, Try.ntmps7
    go_wp2_with fail
    rw [← HW.out]
    refine (HASK.out _).mono ?_
    rintro e w4 ⟨rfl, P4⟩
    have HP4 := Lib.hid (HP.out.trans P4)
    have L0 := Lib.hid (P4.heap K0.out (fun f => f)); have L1 := Lib.hid (P4.heap K1.out (fun f => f)); have L2 := Lib.hid (P4.heap K2.out (fun f => f))
    clear P4 K0 K1 K2 HP
    obtain ⟨d0, d1, _⟩ := read23 L0.out
    go_wp2_with fail
    refine (HN.out _).mono ?_
    rintro e w5 ⟨rfl, P5⟩
    obtain ⟨w7, hw7⟩ : ∃ x, x = (w5.alloc (.cells #[.int .i64 R.1.1, .int .i64 R.1.2] 23)).alloc (.cells #[.int .i64 R.2.1, .int .i64 R.2.2] 23) := ⟨_, rfl⟩
    have P7 : Pure w5 w7 := by rw [hw7]; exact lay_pure [_, _] w5
    have n0 : w7.heap[w5.heap.size]? = some (.cells #[.int .i64 R.1.1, .int .i64 R.1.2] 23) := by rw [hw7]; exact lay_row [_, _] w5 0 _ rfl
    have n1 : w7.heap[w5.heap.size + 1]? = some (.cells #[.int .i64 R.2.1, .int .i64 R.2.2] 23) := by rw [hw7]; exact lay_row [_, _] w5 1 _ rfl
    have m1 := P7.heap (P5.heap L1.out (fun f => f)) (fun f => f)
    have m2 := P7.heap (P5.heap L2.out (fun f => f)) (fun f => f)
    have hlt := lt_of_block (P5.heap L2.out (fun f => f))
    obtain ⟨a0, a1, af⟩ := read23 m1
    obtain ⟨⟨i0, i1, jf⟩, ⟨b0, b1, c0, c1⟩, hM, hO⟩ := two23 m1 m2 (by omega) R.1 R.2
    obtain ⟨G, hG⟩ : ∃ G : World → Prop, ∀ x, G x ↔ Only (fun k => k = w.heap.size + 1 ∨ k = w.heap.size + 1 + 1) w7 x := ⟨_, fun _ => Iff.rfl⟩
    have g8 : ∀ g' : InG G, g'.world.cell? ⟨w5.heap.size, 0, none⟩ = some (.int .i64 R.1.1) := fun g' => (read23 (((hG _).1 g'.holds).heap n0 (by omega))).1
    have g81 : ∀ g' : InG G, g'.world.cell? ⟨w5.heap.size, 1, none⟩ = some (.int .i64 R.1.2) := fun g' => (read23 (((hG _).1 g'.holds).heap n0 (by omega))).2.1
    have g9 : ∀ g' : InG G, g'.world.cell? ⟨w5.heap.size + 1, 0, none⟩ = some (.int .i64 R.2.1) := fun g' => (read23 (((hG _).1 g'.holds).heap n1 (by omega))).1
    have g91 : ∀ g' : InG G, g'.world.cell? ⟨w5.heap.size + 1, 1, none⟩ = some (.int .i64 R.2.2) := fun g' => (read23 (((hG _).1 g'.holds).heap n1 (by omega))).2.1
    haveI hInh : Inhabited (InG G) := ⟨⟨w7, (hG w7).2 (Only.refl _ _)⟩⟩
    have MKG := Lib.hid (fun x (h : Only (fun k => k = w.heap.size + 1 ∨ k = w.heap.size + 1 + 1) w7 x) => (hG x).2 h)
    have HZ := Lib.hid (((HP4.out.trans P5).trans P7).trans' hO (fun i hi e => by omega))
    have HM := Lib.hid hM; have HO := Lib.hid hO; have HW7 := Lib.hid hw7; have HB := Lib.hid (And.intro (And.intro b0 b1) (And.intro c0 c1))
    clear P5 P7 n0 n1 m1 m2 hlt hM hO hG hw7 b0 b1 c0 c1
    go_wp2_with fail
    rw [← HW7.out]
    refine any_start G (by kernel_rfl) ?_
    refine any_take [0, 1] (by kernel_rfl) (MKG.out _ (Only.refl _ _).drew) (fun d _ _ _ _ h => by cases d <;> exact h) 3 (by kernel_rfl) ?_
    simp only [picks, List.drop_succ_cons, List.drop_zero, List.take_succ_cons, List.take_zero, List.cons_append, List.nil_append]
    repeat (go_big_quiet_step (fail))
    refine wpQuiet_nil ?_
    refine any_force (i := 2) (by kernel_rfl) rfl ?_
    go_wp2_with fail
    refine ⟨MKG.out _ HM.out.drew, ?_⟩
    refine any_force (i := 3) (by kernel_rfl) rfl ?_
    go_wp2_with fail
    refine ⟨MKG.out _ HO.out.drew, ?_⟩
    refine any_take [4] (by kernel_rfl) (MKG.out _ HO.out.drew) (fun d _ _ _ _ h => by cases d <;> exact h) 0 (by kernel_rfl) ?_
    simp only [picks, List.drop_succ_cons, List.drop_zero, List.take_succ_cons, List.take_zero, List.cons_append, List.nil_append]
    repeat (go_big_quiet_step (fail))
    refine wpQuiet_nil ?_
    refine any_done (by kernel_rfl) ?_
    go_wp2_with fail
    refine bodyPost_ret (v := .tuple #[(Value.agg #[Value.int IntKind.i64 (Prod.fst (R.1)), Value.int IntKind.i64 (Prod.snd (R.1))]), (Value.agg #[Value.int IntKind.i64 (Prod.fst (R.2)), Value.int IntKind.i64 (Prod.snd (R.2))]), .int .i64 0]) ?_ rfl ⟨rfl, HZ.out.drew⟩
    simp [results, Try.f7, go_sem, HB.out.1.1, HB.out.1.2, HB.out.2.1, HB.out.2.2]
  · rw [nearR_bad he]
    obtain ⟨E, hE⟩ : ∃ E, askedE r step = E := ⟨_, rfl⟩
    rw [hE] at he hask ⊢
    have HASK := Lib.hid hask
    clear hask hE
    have heb : (E == 0) = false := by simpa using he
    go_enter Try.func7, Try.ntmps7
    go_wp2_with fail
    rw [← HW.out]
    refine (HASK.out _).mono ?_
    rintro e w4 ⟨rfl, P4⟩
    have HP4 := Lib.hid (HP.out.trans P4)
    have L0 := Lib.hid (P4.heap K0.out (fun f => f)); have L1 := Lib.hid (P4.heap K1.out (fun f => f)); have L2 := Lib.hid (P4.heap K2.out (fun f => f))
    clear P4 K0 K1 K2 HP
    obtain ⟨a0, a1, af⟩ := read23 L1.out
    obtain ⟨⟨i0, i1, jf⟩, ⟨b0, b1, c0, c1⟩, hM, hO⟩ := two23 L1.out L2.out (by omega) (0, 0) (0, 0)
    have HZ := Lib.hid (HP4.out.trans' hO (fun i hi e => by omega)); have HB := Lib.hid (And.intro (And.intro b0 b1) (And.intro c0 c1))
    clear b0 b1 c0 c1 hM hO
    go_wp2_with fail
    refine bodyPost_ret (v := .tuple #[(Value.agg #[Value.int IntKind.i64 (Prod.fst (((0, 0) : Fr))), Value.int IntKind.i64 (Prod.snd (((0, 0) : Fr)))]), (Value.agg #[Value.int IntKind.i64 (Prod.fst (((0, 0) : Fr))), Value.int IntKind.i64 (Prod.snd (((0, 0) : Fr)))]), .int .i64 E]) ?_ rfl ⟨rfl, HZ.out⟩
    simp [results, Try.f7, go_sem, HB.out.1.1, HB.out.1.2, HB.out.2.1, HB.out.2.2]
end Go.Proofs.Ythnjfekkngpbjaa

/- Searches through slices of ranges. Printed by genfind.py. -/
namespace Go.Proofs.Ythnjfekkngpbjaa
open Go.RowKit Go.Shelf

set_option maxHeartbeats 1000000 in
set_option maxRecDepth 100000 in
theorem indexPairs_any (g : Nat) (lb : Array Value) (p : (Int × Int) → Bool) (D : Nat → Prop) (v : Value) (l : List (Int × Int)) (w : World) (hE : ∀ args w, (callFunc g args).run Try.prog w = .ok (.enter g args) w) (hv : Pairs D w v l)
    (hO : ∀ W, Pure w W → ∀ i, i < l.length → Calls Try.prog g (#[.agg #[.int .i64 (l[i]?.getD (0, 0)).1, .int .i64 (l[i]?.getD (0, 0)).2]] ++ lb) W fun e w' => e = .returned (.bool (p (l[i]?.getD (0, 0)))) ∧ Pure W w') :
    Calls Try.prog 80 #[v, .func (.func g) #[] lb] w fun e w' => e = .returned (.int .i64 (idxFrom p l 0)) ∧ Pure w w' := by
  obtain ⟨a, len, cap, rfl, hlen, _, hm, hc⟩ := hv
  have HL := Lib.hid hlen; have HC := Lib.hid hc; have HO := Lib.hid hO; have HE := Lib.hid hE
  clear hlen hc hO
  go_enter Try.func80, Try.ntmps80
  go_wp2_with fail
  go_loopw [8] (fun i wr => ∃ k : Nat, k ≤ len ∧ i = .int .i64 k ∧ Hid (idxFrom p l 0 = idxFrom p (l.drop k) k) ∧ Hid (Pure w wr)) (fun i _ => len - (intOf i).toNat)
  case atStart => exact ⟨0, Nat.zero_le _, rfl, Lib.hid (by simp), Lib.hid (Only.refl _ _)⟩
  case round =>
    obtain ⟨k, hk, rfl, hI, hP⟩ := hrel
    by_cases hlt : k < len
    · obtain ⟨b, off, rfl, _, q0, q1⟩ := HC.out k hlt
      have hstep := Lib.hid (idx_step p l k (l[k]?.getD (0, 0)) (by rw [List.getElem?_eq_getElem (by rw [← HL.out]; exact hlt)]; rfl))
      have k0 := hP.out.cell q0 (fun f => f)
      have k1 := hP.out.cell q1 (fun f => f)
      have hcl := HO.out wr hP.out k (by rw [← HL.out]; exact hlt)
      obtain ⟨x, hx⟩ : ∃ x, l[k]?.getD (0, 0) = x := ⟨_, rfl⟩
      rw [hx] at k0 k1 hstep hcl
      obtain ⟨z, hz⟩ : ∃ z, p x = z := ⟨_, rfl⟩
      rw [hz] at hcl
      have HZ := Lib.hid hz
      have HCL := Lib.hid hcl
      clear hz q0 q1 hx hcl
      go_wp2_with fail
      refine HCL.out.mono ?_
      rintro e w2 ⟨rfl, P2⟩
      have HP2 := Lib.hid (hP.out.trans P2)
      clear HCL P2 k0 k1 hP
      cases z with
      | true =>
        go_wp2
        go_ret
        exact ⟨by rw [hI.out, hstep.out, HZ.out]; rfl, HP2.out⟩
      | false =>
        go_wp2
        go_roundw
        case rel => exact ⟨k + 1, by omega, by go_num, Lib.hid (by rw [hI.out, hstep.out, HZ.out]; rfl), HP2⟩
        case measure => simp [intOf]; omega
    · have hk' : l.drop k = [] := List.drop_eq_nil_of_le (by rw [← HL.out]; omega)
      have HX := Lib.hid (show idxFrom p l 0 = -1 from by rw [hI.out, hk']; rfl)
      go_wp2
      go_ret
      exact ⟨by rw [HX.out]; rfl, hP.out⟩
theorem containsPairs_any (g : Nat) (lb : Array Value) (p : (Int × Int) → Bool) (D : Nat → Prop) (v : Value) (l : List (Int × Int)) (w : World) (hE : ∀ args w, (callFunc g args).run Try.prog w = .ok (.enter g args) w) (hv : Pairs D w v l)
    (hO : ∀ W, Pure w W → ∀ i, i < l.length → Calls Try.prog g (#[.agg #[.int .i64 (l[i]?.getD (0, 0)).1, .int .i64 (l[i]?.getD (0, 0)).2]] ++ lb) W fun e w' => e = .returned (.bool (p (l[i]?.getD (0, 0)))) ∧ Pure W w') :
    Calls Try.prog 52 #[v, .func (.func g) #[] lb] w fun e w' => e = .returned (.bool (l.any p)) ∧ Pure w w' := by
  have hx := idxFrom_ge p l 0 (Int.le_refl _)
  have hI := indexPairs_any g lb p D v l w hE hv hO
  obtain ⟨a, n, c, rfl⟩ : ∃ a n c, v = .slice a n c := by obtain ⟨a, n, c, h, _⟩ := hv; exact ⟨a, n, c, h⟩
  have hd : decide (0 ≤ idxFrom p l 0) = l.any p := by rw [Bool.eq_iff_iff]; simpa using hx
  obtain ⟨q, hq⟩ : ∃ q, idxFrom p l 0 = q := ⟨_, rfl⟩
  rw [hq] at hI hd
  have HD := Lib.hid hd
  clear hx hE hO hv hq hd
  go_enter Try.func52, Try.ntmps52
  go_wp2_with fail
  refine hI.mono ?_
  rintro e w' ⟨rfl, P⟩
  have HP := Lib.hid P
  clear hI P
  go_wp2
  go_ret
  exact ⟨by rw [← HD.out]; rfl, HP.out⟩
end Go.Proofs.Ythnjfekkngpbjaa

/- Searches through slices of quotes. Printed by genfind.py. -/
namespace Go.Proofs.Ythnjfekkngpbjaa
open Go.RowKit Go.Shelf

def Quotes (D : Nat → Prop) (w : World) (v : Value) (l : List Quote) : Prop :=
  ∃ a len cap, v = .slice a len cap ∧ len = l.length ∧ len ≤ cap ∧ len ≤ 9223372036854775807 ∧ ∀ i, i < len → ∃ b off, a = some ⟨b, off, none⟩ ∧ D b ∧
    w.cell? ⟨b, off + i * 4, none⟩ = some (.int .i64 (l[i]?.getD ⟨0, 0, 0, false⟩).runner) ∧ w.cell? ⟨b, off + i * 4 + 1, none⟩ = some (.int .i64 (l[i]?.getD ⟨0, 0, 0, false⟩).num) ∧
    w.cell? ⟨b, off + i * 4 + 2, none⟩ = some (.int .i64 (l[i]?.getD ⟨0, 0, 0, false⟩).den) ∧ w.cell? ⟨b, off + i * 4 + 3, none⟩ = some (.bool (l[i]?.getD ⟨0, 0, 0, false⟩).lay)
theorem Quotes.keep {D S : Nat → Prop} {w w' : World} {v : Value} {l : List Quote} (h : Quotes D w v l) (ho : Only S w w') (hd : ∀ k, D k → ¬ S k) : Quotes D w' v l := by
  obtain ⟨a, len, cap, hv, hl, hc, hm, h⟩ := h
  refine ⟨a, len, cap, hv, hl, hc, hm, fun i hi => ?_⟩
  obtain ⟨b, off, ha, hD, c0, c1, c2, c3⟩ := h i hi
  exact ⟨b, off, ha, hD, ho.cell c0 (hd b hD), ho.cell c1 (hd b hD), ho.cell c2 (hd b hD), ho.cell c3 (hd b hD)⟩
theorem Quotes.pure {D : Nat → Prop} {w w' : World} {v : Value} {l : List Quote} (h : Quotes D w v l) (ho : Pure w w') : Quotes D w' v l := h.keep ho (fun _ _ f => f)
theorem Quotes.form {D : Nat → Prop} {w : World} {v : Value} {l : List Quote} (h : Quotes D w v l) : ∃ a cap, v = .slice a l.length cap := by
  obtain ⟨a, len, cap, hv, rfl, _⟩ := h; exact ⟨a, cap, hv⟩
theorem Pairs.form {D : Nat → Prop} {w : World} {v : Value} {l : List (Int × Int)} (h : Pairs D w v l) : ∃ a cap, v = .slice a l.length cap := by
  obtain ⟨a, len, cap, hv, rfl, _⟩ := h; exact ⟨a, cap, hv⟩
def quC (q : Quote) : List Value := [.int .i64 q.runner, .int .i64 q.num, .int .i64 q.den, .bool q.lay]
theorem SliceAt.quotes {D : Nat → Prop} {w : World} {v : Value} {l : List Quote} (h : SliceAt D w v 4 (l.flatMap quC)) : Quotes D w v l := by
  obtain ⟨a, len, cap, rfl, hl, hlc, hm, hc⟩ := h
  rw [flat_length quC 4 l (fun _ _ => rfl)] at hl
  have hll : len = l.length := by omega
  refine ⟨a, len, cap, rfl, hll, hlc, by unfold maxLen at hm; omega, fun i hi => ?_⟩
  obtain ⟨b, off, ha, hD, hcell⟩ := hc (by omega)
  have hi' : i < l.length := by omega
  have g0 := flat_get quC 4 l (fun _ _ => rfl) i 0 hi' (by decide)
  have g1 := flat_get quC 4 l (fun _ _ => rfl) i 1 hi' (by decide)
  have g2 := flat_get quC 4 l (fun _ _ => rfl) i 2 hi' (by decide)
  have g3 := flat_get quC 4 l (fun _ _ => rfl) i 3 hi' (by decide)
  have e : l[i]?.getD ⟨0, 0, 0, false⟩ = l[i] := by rw [List.getElem?_eq_getElem hi']; rfl
  rw [e]
  exact ⟨b, off, ha, hD, hcell _ _ g0, by rw [Nat.add_assoc]; exact hcell _ _ g1, by rw [Nat.add_assoc]; exact hcell _ _ g2, by rw [Nat.add_assoc]; exact hcell _ _ g3⟩

set_option maxHeartbeats 1000000 in
set_option maxRecDepth 100000 in
theorem indexQuotes_any (g : Nat) (lb : Array Value) (p : Quote → Bool) (D : Nat → Prop) (v : Value) (l : List Quote) (w : World) (hE : ∀ args w, (callFunc g args).run Try.prog w = .ok (.enter g args) w) (hv : Quotes D w v l)
    (hO : ∀ W, Pure w W → ∀ i, i < l.length → Calls Try.prog g (#[.agg #[.int .i64 (l[i]?.getD ⟨0, 0, 0, false⟩).runner, .int .i64 (l[i]?.getD ⟨0, 0, 0, false⟩).num, .int .i64 (l[i]?.getD ⟨0, 0, 0, false⟩).den, .bool (l[i]?.getD ⟨0, 0, 0, false⟩).lay]] ++ lb) W fun e w' => e = .returned (.bool (p (l[i]?.getD ⟨0, 0, 0, false⟩))) ∧ Pure W w') :
    Calls Try.prog 81 #[v, .func (.func g) #[] lb] w fun e w' => e = .returned (.int .i64 (idxFrom p l 0)) ∧ Pure w w' := by
  obtain ⟨a, len, cap, rfl, hlen, _, hm, hc⟩ := hv
  have HL := Lib.hid hlen; have HC := Lib.hid hc; have HO := Lib.hid hO; have HE := Lib.hid hE
  clear hlen hc hO
  go_enter Try.func81, Try.ntmps81
  go_wp2_with fail
  go_loopw [8] (fun i wr => ∃ k : Nat, k ≤ len ∧ i = .int .i64 k ∧ Hid (idxFrom p l 0 = idxFrom p (l.drop k) k) ∧ Hid (Pure w wr)) (fun i _ => len - (intOf i).toNat)
  case atStart => exact ⟨0, Nat.zero_le _, rfl, Lib.hid (by simp), Lib.hid (Only.refl _ _)⟩
  case round =>
    obtain ⟨k, hk, rfl, hI, hP⟩ := hrel
    by_cases hlt : k < len
    · obtain ⟨b, off, rfl, _, q0, q1, q2, q3⟩ := HC.out k hlt
      have hstep := Lib.hid (idx_step p l k (l[k]?.getD ⟨0, 0, 0, false⟩) (by rw [List.getElem?_eq_getElem (by rw [← HL.out]; exact hlt)]; rfl))
      have k0 := hP.out.cell q0 (fun f => f)
      have k1 := hP.out.cell q1 (fun f => f)
      have k2 := hP.out.cell q2 (fun f => f)
      have k3 := hP.out.cell q3 (fun f => f)
      have hcl := HO.out wr hP.out k (by rw [← HL.out]; exact hlt)
      obtain ⟨x, hx⟩ : ∃ x, l[k]?.getD ⟨0, 0, 0, false⟩ = x := ⟨_, rfl⟩
      rw [hx] at k0 k1 k2 k3 hstep hcl
      obtain ⟨z, hz⟩ : ∃ z, p x = z := ⟨_, rfl⟩
      rw [hz] at hcl
      have HZ := Lib.hid hz
      have HCL := Lib.hid hcl
      clear hz q0 q1 q2 q3 hx hcl
      go_wp2_with fail
      refine HCL.out.mono ?_
      rintro e w2 ⟨rfl, P2⟩
      have HP2 := Lib.hid (hP.out.trans P2)
      clear HCL P2 k0 k1 k2 k3 hP
      cases z with
      | true =>
        go_wp2
        go_ret
        exact ⟨by rw [hI.out, hstep.out, HZ.out]; rfl, HP2.out⟩
      | false =>
        go_wp2
        go_roundw
        case rel => exact ⟨k + 1, by omega, by go_num, Lib.hid (by rw [hI.out, hstep.out, HZ.out]; rfl), HP2⟩
        case measure => simp [intOf]; omega
    · have hk' : l.drop k = [] := List.drop_eq_nil_of_le (by rw [← HL.out]; omega)
      have HX := Lib.hid (show idxFrom p l 0 = -1 from by rw [hI.out, hk']; rfl)
      go_wp2
      go_ret
      exact ⟨by rw [HX.out]; rfl, hP.out⟩
theorem containsQuotes_any (g : Nat) (lb : Array Value) (p : Quote → Bool) (D : Nat → Prop) (v : Value) (l : List Quote) (w : World) (hE : ∀ args w, (callFunc g args).run Try.prog w = .ok (.enter g args) w) (hv : Quotes D w v l)
    (hO : ∀ W, Pure w W → ∀ i, i < l.length → Calls Try.prog g (#[.agg #[.int .i64 (l[i]?.getD ⟨0, 0, 0, false⟩).runner, .int .i64 (l[i]?.getD ⟨0, 0, 0, false⟩).num, .int .i64 (l[i]?.getD ⟨0, 0, 0, false⟩).den, .bool (l[i]?.getD ⟨0, 0, 0, false⟩).lay]] ++ lb) W fun e w' => e = .returned (.bool (p (l[i]?.getD ⟨0, 0, 0, false⟩))) ∧ Pure W w') :
    Calls Try.prog 58 #[v, .func (.func g) #[] lb] w fun e w' => e = .returned (.bool (l.any p)) ∧ Pure w w' := by
  have hx := idxFrom_ge p l 0 (Int.le_refl _)
  have hI := indexQuotes_any g lb p D v l w hE hv hO
  obtain ⟨a, n, c, rfl⟩ : ∃ a n c, v = .slice a n c := by obtain ⟨a, n, c, h, _⟩ := hv; exact ⟨a, n, c, h⟩
  have hd : decide (0 ≤ idxFrom p l 0) = l.any p := by rw [Bool.eq_iff_iff]; simpa using hx
  obtain ⟨q, hq⟩ : ∃ q, idxFrom p l 0 = q := ⟨_, rfl⟩
  rw [hq] at hI hd
  have HD := Lib.hid hd
  clear hx hE hO hv hq hd
  go_enter Try.func58, Try.ntmps58
  go_wp2_with fail
  refine hI.mono ?_
  rintro e w' ⟨rfl, P⟩
  have HP := Lib.hid P
  clear hI P
  go_wp2
  go_ret
  exact ⟨by rw [← HD.out]; rfl, HP.out⟩
end Go.Proofs.Ythnjfekkngpbjaa

/- CheckPool; pooled. -/
namespace Go.Proofs.Ythnjfekkngpbjaa
open Go.RowKit Go.Shelf

set_option maxHeartbeats 1000000 in
set_option maxRecDepth 100000 in
theorem oddRange_any (s : Fr) (w : World) : Calls Try.prog 51 #[(Value.agg #[Value.int IntKind.i64 (Prod.fst (s)), Value.int IntKind.i64 (Prod.snd (s))])] w fun e w' => e = .returned (.bool (oddRange s)) ∧ Pure w w' := by
  obtain ⟨w3, hw3⟩ : ∃ x, x = w.alloc (.cells #[.int .i64 s.1, .int .i64 s.2] 76) := ⟨_, rfl⟩
  rcases Int.lt_or_le s.2 s.1 with hlt | hle
  · have hR : oddRange s = true := by unfold oddRange; simp [hlt]
    rw [hR]
    go_enter Try.func51, Try.ntmps51
    go_wp2_with fail
    go_ret
    exact ⟨rfl, (Only.refl _ w).alloc _⟩
  · have hR : oddRange s = !withinB 0 1000000 [s.1, s.2] := by unfold oddRange; rw [decide_eq_false (by omega)]; rfl
    rw [hR]
    have hdd : decide (s.2 < s.1) = false := decide_eq_false (by omega)
    clear hw3 hle
    go_enter Try.func51, Try.ntmps51
    go_wp2_with fail
    refine (within_two 0 1000000 s.1 s.2 _ _ (new_cell _ _ _ _ _ _ (by simp) rfl) (new_cell _ _ _ _ _ _ (by simp) rfl)).mono ?_
    rintro e w1 ⟨rfl, P1⟩
    have HP := Lib.hid ((((Only.refl (fun _ => False) w).alloc _).alloc _).trans P1)
    clear P1
    rcases hb : withinB 0 1000000 [s.1, s.2]
    all_goals
      have HB := Lib.hid hb
      clear hb
      go_wp2_with fail
      go_ret
      exact ⟨by rw [HB.out]; rfl, HP.out⟩

structure PoolV (D : Nat → Prop) (w : World) (v : Value) (p : OPool) : Prop where
  stakes : Pairs D w v p.stakes
theorem PoolV.pure {D : Nat → Prop} {w w' : World} {v : Value} {p : OPool} (h : PoolV D w v p) (hP : Pure w w') : PoolV D w' v p := ⟨h.stakes.pure hP⟩

theorem cp1 {p : OPool} (h : withinB 1 8 [(p.stakes.length : Int)] = false) : checkPool p = 6 := by unfold checkPool; rw [if_pos h]
theorem cp2 {p : OPool} (h : withinB 1 8 [(p.stakes.length : Int)] = true) : checkPool p = if (p.stakes.any oddRange || !withinB 0 500 [p.cut]) then 3 else 0 := by unfold checkPool; rw [if_neg (by rw [h]; decide)]

set_option maxHeartbeats 1000000 in
set_option maxRecDepth 100000 in
theorem checkPool_any (D : Nat → Prop) (v : Value) (p : OPool) (w : World) (hp : Pairs D w v p.stakes) : Calls Try.prog 18 #[.agg #[v, .int .i64 p.cut]] w fun e w' => e = .returned (.int .i64 (checkPool p)) ∧ Pure w w' := by
  obtain ⟨ad, cp, rfl⟩ := hp.form
  obtain ⟨w2, hw2⟩ : ∃ x, x = (w.alloc (.cells #[.slice ad p.stakes.length cp, .int .i64 p.cut] 26)).alloc (.cells #[.int .i64 (p.stakes.length : Int)] 2) := ⟨_, rfl⟩
  have hP2 : Pure w w2 := by rw [hw2]; exact lay_pure [_, _] w
  have k0 : w2.heap[w.heap.size]? = some (.cells #[.slice ad p.stakes.length cp, .int .i64 p.cut] 26) := by rw [hw2]; exact lay_row [_, _] w 0 _ rfl
  have k1 : w2.heap[w.heap.size + 1]? = some (.cells #[.int .i64 (p.stakes.length : Int)] 2) := by rw [hw2]; exact lay_row [_, _] w 1 _ rfl
  have hwi := within_one 1 8 (p.stakes.length : Int) (w.heap.size + 1) w2 (cell_of_row _ _ 0 _ _ _ k1)
  have hcont := fun W (hW : Pure w W) => containsPairs_any 51 #[] oddRange D _ p.stakes W (enters_of Try.func51 (by kernel_rfl) rfl) (hp.pure hW) (fun W' _ i _ => oddRange_any _ W')
  have HW := Lib.hid hw2; have HP := Lib.hid hP2; have K0 := Lib.hid k0; have HWI := Lib.hid hwi; have HC := Lib.hid hcont
  obtain ⟨X, hX⟩ : ∃ X, checkPool p = X := ⟨_, rfl⟩
  rw [hX]
  have hc1 : withinB 1 8 [(p.stakes.length : Int)] = false → 6 = X := fun h => by rw [← hX, cp1 h]
  have hc2 : withinB 1 8 [(p.stakes.length : Int)] = true → p.stakes.any oddRange = true → 3 = X := fun h k => by rw [← hX, cp2 h, k]; rfl
  have hc3 : withinB 1 8 [(p.stakes.length : Int)] = true → p.stakes.any oddRange = false → (if withinB 0 500 [p.cut] then 0 else 3) = X := fun h k => by rw [← hX, cp2 h, k]; cases withinB 0 500 [p.cut] <;> rfl
  have H1 := Lib.hid hc1; have H2 := Lib.hid hc2; have H3 := Lib.hid hc3
  clear hw2 hP2 k0 k1 hwi hcont hX hc1 hc2 hc3
  go_enter Try.func18, Try.ntmps18
  go_wp2_with fail
  rw [← HW.out]
  refine HWI.out.mono ?_
  rintro e w3 ⟨rfl, P3⟩
  have HP3 := Lib.hid (HP.out.trans P3)
  have k0 := P3.heap K0.out (fun f => f)
  have c0 : w3.cell? ⟨w.heap.size, 0, none⟩ = some (.slice ad p.stakes.length cp) := cell_of_row _ _ 0 _ _ _ k0
  have K0 := Lib.hid k0
  clear P3 k0
  rcases hb : withinB 1 8 [(p.stakes.length : Int)]
  · have HX := Lib.hid (H1.out hb)
    clear hb
    go_wp2_with fail
    go_ret
    exact ⟨by rw [← HX.out]; rfl, HP3.out⟩
  · have HB := Lib.hid hb
    clear hb
    go_wp2_with fail
    refine (HC.out _ HP3.out).mono ?_
    rintro e w4 ⟨rfl, P4⟩
    have HP4 := Lib.hid (HP3.out.trans P4)
    have k0 := P4.heap K0.out (fun f => f)
    have c1 : w4.cell? ⟨w.heap.size, 1, none⟩ = some (.int .i64 p.cut) := cell_of_row _ _ 1 _ _ _ k0
    clear P4 k0
    rcases hc : p.stakes.any oddRange
    · have HX := Lib.hid (H3.out HB.out hc)
      clear hc
      go_wp2_with fail
      refine (within_one 0 500 p.cut _ _ (new_cell _ _ _ _ _ _ (by simp) rfl)).mono ?_
      rintro e w5 ⟨rfl, P5⟩
      have HP5 := Lib.hid ((HP4.out.alloc _).trans P5)
      clear P5
      rcases hd : withinB 0 500 [p.cut]
      · have HX := Lib.hid (show 3 = X from by rw [← HX.out, hd]; rfl)
        clear hd
        go_wp2_with fail
        go_ret
        exact ⟨by rw [← HX.out]; rfl, HP5.out⟩
      · have HX := Lib.hid (show 0 = X from by rw [← HX.out, hd]; rfl)
        clear hd
        go_wp2_with fail
        go_ret
        exact ⟨by rw [← HX.out]; rfl, HP5.out⟩
    · have HX := Lib.hid (H2.out HB.out hc)
      clear hc
      go_wp2_with fail
      go_ret
      exact ⟨by rw [← HX.out]; rfl, HP4.out⟩

theorem pe1 {p : OPool} {r : Int} (h : checkPool p ≠ 0) : pooledE p r = checkPool p := by unfold pooledE; rw [if_pos h]
theorem pe2 {p : OPool} {r : Int} (h : checkPool p = 0) : pooledE p r = if r < 0 ∨ (p.stakes.length : Int) ≤ r then 2 else 0 := by unfold pooledE; rw [if_neg (fun k => k h)]

set_option maxHeartbeats 1000000 in
set_option maxRecDepth 100000 in
theorem pooled_any (D : Nat → Prop) (v : Value) (p : OPool) (r : Int) (w : World) (hp : Pairs D w v p.stakes) : Calls Try.prog 53 #[.agg #[v, .int .i64 p.cut], .int .i64 r] w fun e w' => e = .returned (.int .i64 (pooledE p r)) ∧ Pure w w' := by
  have hP1 : Pure w (w.alloc (.cells #[v, .int .i64 p.cut] 26)) := (Only.refl _ w).alloc _
  have hcp := checkPool_any D v p _ (hp.pure hP1)
  obtain ⟨ad, cp, rfl⟩ := hp.form
  have k0 := World.alloc_heap_new w (.cells #[.slice ad p.stakes.length cp, .int .i64 p.cut] 26)
  have HP := Lib.hid hP1; have K0 := Lib.hid k0
  obtain ⟨n, hn⟩ : ∃ n, p.stakes.length = n := ⟨_, rfl⟩
  by_cases he : checkPool p = 0
  · rw [pe2 he]
    rw [he] at hcp
    rw [hn] at hcp K0 HP ⊢
    have HCP := Lib.hid hcp
    clear hcp he hp hP1 k0 hn
    by_cases hr : r < 0 ∨ (n : Int) ≤ r
    · rw [if_pos hr]
      go_enter Try.func53, Try.ntmps53
      go_wp2_with fail
      refine HCP.out.mono ?_
      rintro e w2 ⟨rfl, P2⟩
      have HP2 := Lib.hid (HP.out.trans P2)
      have c0 : w2.cell? ⟨w.heap.size, 0, none⟩ = some (.slice ad n cp) := cell_of_row _ _ 0 _ _ _ (P2.heap K0.out (fun f => f))
      clear P2
      rcases Int.lt_or_le r 0 with h0 | h0
      · go_wp2_with fail
        go_ret
        exact ⟨rfl, HP2.out⟩
      · have h1 : (n : Int) ≤ r := by omega
        go_wp2_with fail
        go_ret
        exact ⟨rfl, HP2.out⟩
    · rw [if_neg hr]
      have h0 : 0 ≤ r := by omega
      have h1 : r < (n : Int) := by omega
      clear hr
      go_enter Try.func53, Try.ntmps53
      go_wp2_with fail
      refine HCP.out.mono ?_
      rintro e w2 ⟨rfl, P2⟩
      have HP2 := Lib.hid (HP.out.trans P2)
      have c0 : w2.cell? ⟨w.heap.size, 0, none⟩ = some (.slice ad n cp) := cell_of_row _ _ 0 _ _ _ (P2.heap K0.out (fun f => f))
      clear P2
      go_wp2_with fail
      go_ret
      exact ⟨rfl, HP2.out⟩
  · rw [pe1 he]
    obtain ⟨E, hE⟩ : ∃ E, checkPool p = E := ⟨_, rfl⟩
    rw [hE] at he hcp ⊢
    have heb : (E == 0) = false := by simpa using he
    have HCP := Lib.hid hcp
    clear hcp hE hp hP1 k0 hn
    go_enter Try.func53, Try.ntmps53
    go_wp2_with fail
    refine HCP.out.mono ?_
    rintro e w2 ⟨rfl, P2⟩
    have HP2 := Lib.hid (HP.out.trans P2)
    clear P2
    go_wp2_with fail
    go_ret
    exact ⟨rfl, HP2.out⟩
theorem pooled_zero {p : OPool} {r : Int} (h : pooledE p r = 0) : 0 ≤ r ∧ r < p.stakes.length ∧ p.stakes.length ≤ 8 ∧ (∀ i, i < p.stakes.length → 0 ≤ (frAt p.stakes i).1 ∧ (frAt p.stakes i).1 ≤ (frAt p.stakes i).2 ∧ (frAt p.stakes i).2 ≤ 1000000) := by
  unfold pooledE at h
  by_cases he : checkPool p = 0
  · rw [if_neg (fun k => k he)] at h
    have h2 : ¬ (r < 0 ∨ (p.stakes.length : Int) ≤ r) := fun k => by rw [if_pos k] at h; cases h
    unfold checkPool at he
    rcases hb : withinB 1 8 [(p.stakes.length : Int)] with _ | _
    · rw [if_pos hb] at he; cases he
    · rw [if_neg (by rw [hb]; decide)] at he
      have h8 := within1 hb
      rcases hc : p.stakes.any oddRange with _ | _
      · refine ⟨by omega, by omega, by omega, fun i hi => ?_⟩
        rw [List.any_eq_false] at hc
        have hx := hc (frAt p.stakes i) (by unfold frAt; rw [List.getElem?_eq_getElem hi]; exact List.getElem_mem _)
        simp [oddRange, withinB, outB] at hx
        omega
      · rw [hc] at he; cases he
  · rw [if_pos he] at h; exact absurd h he
end Go.Proofs.Ythnjfekkngpbjaa

/- CheckMarket. -/
namespace Go.Proofs.Ythnjfekkngpbjaa
open Go.RowKit Go.Shelf

set_option maxHeartbeats 1000000 in
set_option maxRecDepth 100000 in
theorem strayQ_any (q : Quote) (B : Nat) (m : Int) (w : World) (hB : w.cell? ⟨B, 0, none⟩ = some (.int .i64 m)) : Calls Try.prog 56 #[(Value.agg #[Value.int IntKind.i64 (Quote.runner (q)), Value.int IntKind.i64 (Quote.num (q)), Value.int IntKind.i64 (Quote.den (q)), Value.bool (Quote.lay (q))]), .pointer (some ⟨B, 0, none⟩)] w fun e w' => e = .returned (.bool (strayQ m q)) ∧ Pure w w' := by
  have hlt := World.block_lt_of_cell? w _ hB
  have hB1 : (w.alloc (.cells #[.int .i64 q.runner, .int .i64 q.num, .int .i64 q.den, .bool q.lay] 83)).cell? ⟨B, 0, none⟩ = some (.int .i64 m) := ((Only.refl (fun _ => False) w).alloc _).cell hB (fun f => f)
  rcases Int.lt_or_le q.runner 0 with h | h
  · have hR : strayQ m q = true := by unfold strayQ; simp [h]
    rw [hR]
    go_enter Try.func56, Try.ntmps56
    go_wp2_with fail
    go_ret
    exact ⟨rfl, (Only.refl _ w).alloc _⟩
  · have hd0 : decide (q.runner < 0) = false := decide_eq_false (by omega)
    rcases Int.lt_or_le q.runner m with h2 | h2
    · have hR : strayQ m q = false := by unfold strayQ; simp; omega
      rw [hR]
      have hd : decide (m ≤ q.runner) = false := decide_eq_false (by omega)
      have hd2 : decide (q.runner ≥ m) = false := decide_eq_false (by omega)
      go_enter Try.func56, Try.ntmps56
      go_wp2_with fail
      go_ret
      exact ⟨rfl, (Only.refl _ w).alloc _⟩
    · have hR : strayQ m q = true := by unfold strayQ; simp; omega
      rw [hR]
      go_enter Try.func56, Try.ntmps56
      go_wp2_with fail
      go_ret
      exact ⟨rfl, (Only.refl _ w).alloc _⟩

set_option maxHeartbeats 1000000 in
set_option maxRecDepth 100000 in
theorem oddQ_any (q : Quote) (w : World) : Calls Try.prog 57 #[(Value.agg #[Value.int IntKind.i64 (Quote.runner (q)), Value.int IntKind.i64 (Quote.num (q)), Value.int IntKind.i64 (Quote.den (q)), Value.bool (Quote.lay (q))])] w fun e w' => e = .returned (.bool (oddQ q)) ∧ Pure w w' := by
  go_enter Try.func57, Try.ntmps57
  go_wp2_with fail
  refine (within_one 0 190 q.num _ _ (new_cell _ _ _ _ _ _ (by simp) rfl)).mono ?_
  rintro e w1 ⟨rfl, P1⟩
  replace P1 := Only.of_alloc P1
  have d2 : w1.cell? ⟨w.heap.size, 2, none⟩ = some (.int .i64 q.den) := cell_of_row _ _ 2 _ _ _ (P1.heap (World.alloc_heap_new w _) (fun f => f))
  have HP := Lib.hid (((Only.refl (fun _ => False) w).alloc _).trans P1)
  clear P1
  rcases hb : withinB 0 190 [q.num]
  · have HR := Lib.hid (show oddQ q = true from by unfold oddQ; rw [hb]; rfl)
    clear hb
    go_wp2_with fail
    go_ret
    exact ⟨by rw [HR.out]; rfl, HP.out⟩
  · have HB := Lib.hid hb
    clear hb
    go_wp2_with fail
    refine (within_one 1 10 q.den _ _ (new_cell _ _ _ _ _ _ (by simp) rfl)).mono ?_
    rintro e w2 ⟨rfl, P2⟩
    have HP2 := Lib.hid ((HP.out.alloc _).trans P2)
    clear P2
    rcases hc : withinB 1 10 [q.den]
    · have HR := Lib.hid (show oddQ q = true from by unfold oddQ; rw [HB.out, hc]; rfl)
      clear hc
      go_wp2_with fail
      go_ret
      exact ⟨by rw [HR.out]; rfl, HP2.out⟩
    · have HR := Lib.hid (show oddQ q = false from by unfold oddQ; rw [HB.out, hc]; rfl)
      clear hc
      go_wp2_with fail
      go_ret
      exact ⟨by rw [HR.out]; rfl, HP2.out⟩

theorem cm_cases (m : Market) : (withinB 1 5 [m.runners] = false ∧ checkMarket m = 6) ∨ (withinB 1 5 [m.runners] = true ∧ 12 < (m.quotes.length : Int) ∧ checkMarket m = 6) ∨
    (withinB 1 5 [m.runners] = true ∧ (m.quotes.length : Int) ≤ 12 ∧ m.quotes.any (strayQ m.runners) = true ∧ checkMarket m = 2) ∨
    (withinB 1 5 [m.runners] = true ∧ (m.quotes.length : Int) ≤ 12 ∧ m.quotes.any (strayQ m.runners) = false ∧ m.quotes.any oddQ = true ∧ checkMarket m = 3) ∨
    (withinB 1 5 [m.runners] = true ∧ (m.quotes.length : Int) ≤ 12 ∧ m.quotes.any (strayQ m.runners) = false ∧ m.quotes.any oddQ = false ∧ checkMarket m = 0) := by
  unfold checkMarket
  rcases h1 : withinB 1 5 [m.runners] with _ | _
  · left; exact ⟨rfl, rfl⟩
  · rcases Int.lt_or_le 12 (m.quotes.length : Int) with h2 | h2
    · right; left; exact ⟨rfl, h2, by rw [decide_eq_true h2]; rfl⟩
    · rcases h3 : m.quotes.any (strayQ m.runners) with _ | _
      · rcases h4 : m.quotes.any oddQ with _ | _
        · right; right; right; right; exact ⟨rfl, h2, rfl, rfl, by rw [decide_eq_false (by omega)]; try rfl⟩
        · right; right; right; left; exact ⟨rfl, h2, rfl, rfl, by rw [decide_eq_false (by omega)]; try rfl⟩
      · right; right; left; exact ⟨rfl, h2, rfl, by rw [decide_eq_false (by omega)]; try rfl⟩

set_option maxHeartbeats 2000000 in
set_option maxRecDepth 100000 in
theorem checkMarket_any (D : Nat → Prop) (v : Value) (m : Market) (w : World) (hq : Quotes D w v m.quotes) : Calls Try.prog 24 #[.agg #[.int .i64 m.runners, v]] w fun e w' => e = .returned (.int .i64 (checkMarket m)) ∧ Pure w w' := by
  obtain ⟨ad, cp, rfl⟩ := hq.form
  obtain ⟨n, hn⟩ : ∃ n, m.quotes.length = n := ⟨_, rfl⟩
  rw [hn] at hq ⊢
  obtain ⟨w2, hw2⟩ : ∃ x, x = (w.alloc (.cells #[.int .i64 m.runners, .slice ad n cp] 29)).alloc (.cells #[.int .i64 m.runners] 2) := ⟨_, rfl⟩
  have hP2 : Pure w w2 := by rw [hw2]; exact lay_pure [_, _] w
  have k0 : w2.heap[w.heap.size]? = some (.cells #[.int .i64 m.runners, .slice ad n cp] 29) := by rw [hw2]; exact lay_row [_, _] w 0 _ rfl
  have k1 : w2.heap[w.heap.size + 1]? = some (.cells #[.int .i64 m.runners] 2) := by rw [hw2]; exact lay_row [_, _] w 1 _ rfl
  have hwi := within_one 1 5 m.runners (w.heap.size + 1) w2 (cell_of_row _ _ 0 _ _ _ k1)
  have hc1 := fun W (hW : Pure w2 W) => containsQuotes_any 56 #[.pointer (some ⟨w.heap.size, 0, none⟩)] (strayQ m.runners) D _ m.quotes W (enters_of Try.func56 (by kernel_rfl) rfl) (hq.pure (hP2.trans hW)) (fun W' hW' i _ => strayQ_any _ w.heap.size m.runners W' (cell_of_row _ _ 0 _ _ _ ((hW.trans hW').heap k0 (fun f => f))))
  have hc2 := fun W (hW : Pure w2 W) => containsQuotes_any 57 #[] oddQ D _ m.quotes W (enters_of Try.func57 (by kernel_rfl) rfl) (hq.pure (hP2.trans hW)) (fun W' hW' i _ => oddQ_any _ W')
  have hcs := cm_cases m
  obtain ⟨X, hX⟩ : ∃ X, checkMarket m = X := ⟨_, rfl⟩
  rw [hX] at hcs ⊢
  rw [hn] at hcs
  obtain ⟨b1, hb1⟩ : ∃ b, withinB 1 5 [m.runners] = b := ⟨_, rfl⟩
  obtain ⟨b2, hb2⟩ : ∃ b, m.quotes.any (strayQ m.runners) = b := ⟨_, rfl⟩
  obtain ⟨b3, hb3⟩ : ∃ b, m.quotes.any oddQ = b := ⟨_, rfl⟩
  rw [hb1] at hcs hwi; rw [hb2, hb3] at hcs
  rw [hb2] at hc1; rw [hb3] at hc2
  have HW := Lib.hid hw2; have HP := Lib.hid hP2; have K0 := Lib.hid k0; have HWI := Lib.hid hwi; have HC1 := Lib.hid hc1; have HC2 := Lib.hid hc2
  clear hw2 hP2 k0 k1 hwi hc1 hc2 hX hb1 hb2 hb3 hn hq
  have start : ∀ (R : Ending → World → Prop), True := fun _ => trivial
  rcases hcs with ⟨rfl, rfl⟩ | ⟨rfl, hl, rfl⟩ | ⟨rfl, hl, rfl, rfl⟩ | ⟨rfl, hl, rfl, rfl, rfl⟩ | ⟨rfl, hl, rfl, rfl, rfl⟩
  all_goals
    go_enter Try.func24, Try.ntmps24
    go_wp2_with fail
    rw [← HW.out]
    refine HWI.out.mono ?_
    rintro e w3 ⟨rfl, P3⟩
    have k0 := P3.heap K0.out (fun f => f)
    have c0 : w3.cell? ⟨w.heap.size, 1, none⟩ = some (.slice ad n cp) := cell_of_row _ _ 1 _ _ _ k0
    have HP3 := Lib.hid P3
    clear P3 k0
    go_wp2_with fail
  · go_ret
    exact ⟨rfl, HP.out.trans HP3.out⟩
  · go_ret
    exact ⟨rfl, HP.out.trans HP3.out⟩
  · refine (HC1.out _ HP3.out).mono ?_
    rintro e w4 ⟨rfl, P4⟩
    have HP4 := Lib.hid (HP3.out.trans P4)
    clear P4 c0
    go_wp2_with fail
    go_ret
    exact ⟨rfl, HP.out.trans HP4.out⟩
  · refine (HC1.out _ HP3.out).mono ?_
    rintro e w4 ⟨rfl, P4⟩
    have HP4 := Lib.hid (HP3.out.trans P4)
    clear P4 c0
    have c0 : w4.cell? ⟨w.heap.size, 1, none⟩ = some (.slice ad n cp) := cell_of_row _ _ 1 _ _ _ (HP4.out.heap K0.out (fun f => f))
    go_wp2_with fail
    refine (HC2.out _ HP4.out).mono ?_
    rintro e w5 ⟨rfl, P5⟩
    have HP5 := Lib.hid (HP4.out.trans P5)
    clear P5 c0
    go_wp2_with fail
    go_ret
    exact ⟨rfl, HP.out.trans HP5.out⟩
  · refine (HC1.out _ HP3.out).mono ?_
    rintro e w4 ⟨rfl, P4⟩
    have HP4 := Lib.hid (HP3.out.trans P4)
    clear P4 c0
    have c0 : w4.cell? ⟨w.heap.size, 1, none⟩ = some (.slice ad n cp) := cell_of_row _ _ 1 _ _ _ (HP4.out.heap K0.out (fun f => f))
    go_wp2_with fail
    refine (HC2.out _ HP4.out).mono ?_
    rintro e w5 ⟨rfl, P5⟩
    have HP5 := Lib.hid (HP4.out.trans P5)
    clear P5 c0
    go_wp2_with fail
    go_ret
    exact ⟨rfl, HP.out.trans HP5.out⟩

theorem market_zero {m : Market} (h : checkMarket m = 0) : 1 ≤ m.runners ∧ m.runners ≤ 5 ∧ m.quotes.length ≤ 12 ∧ ∀ i, i < m.quotes.length → 0 ≤ (qAt m.quotes i).runner ∧ (qAt m.quotes i).runner < m.runners ∧ 0 ≤ (qAt m.quotes i).num ∧ (qAt m.quotes i).num ≤ 190 ∧ 1 ≤ (qAt m.quotes i).den ∧ (qAt m.quotes i).den ≤ 10 := by
  rcases cm_cases m with ⟨_, h'⟩ | ⟨_, _, h'⟩ | ⟨_, _, _, h'⟩ | ⟨_, _, _, _, h'⟩ | ⟨h1, h2, h3, h4, _⟩
  all_goals try (rw [h'] at h; cases h)
  have hr := within1 h1
  refine ⟨hr.1, hr.2, by omega, fun i hi => ?_⟩
  rw [List.any_eq_false] at h3 h4
  have hm : qAt m.quotes i ∈ m.quotes := by unfold qAt; rw [List.getElem?_eq_getElem hi]; exact List.getElem_mem _
  have k3 := h3 _ hm
  have k4 := h4 _ hm
  simp [strayQ] at k3
  simp [oddQ, withinB, outB] at k4
  omega
end Go.Proofs.Ythnjfekkngpbjaa

/- odds, shown. -/
namespace Go.Proofs.Ythnjfekkngpbjaa
open Go.RowKit Go.Shelf

set_option maxHeartbeats 1000000 in
set_option maxRecDepth 100000 in
theorem odds_any (own others cut : Int) (w : World) (h1 : 1 ≤ own) (h2 : own ≤ 1000000) : Calls Try.prog 54 #[.int .i64 own, .int .i64 others, .int .i64 cut] w fun e w' => e = .returned (Value.agg #[Value.int IntKind.i64 (Prod.fst ((oddsF own others cut))), Value.int IntKind.i64 (Prod.snd ((oddsF own others cut)))]) ∧ Pure w w' := by
  have hd : wrap64 (1000 * own) = 1000 * own := by unfold wrap64; omega
  obtain ⟨X, hX⟩ : ∃ X, oddsF own others cut = X := ⟨_, rfl⟩
  rw [hX]
  obtain ⟨m, hm⟩ : ∃ m, wrap64 (wrap64 (wrap64 (1000 - cut) * wrap64 (own + others)) - 1000 * own) = m := ⟨_, rfl⟩
  have hf := fun W => frac_any (max 0 m) (1000 * own) W (by omega)
  have hX' : frac (max 0 m) (1000 * own) = X := by rw [← hX]; unfold oddsF; rw [hd, hm]
  simp only [hX'] at hf
  obtain ⟨n, hn⟩ : ∃ n, max 0 m = n := ⟨_, rfl⟩
  rw [hn] at hf
  obtain ⟨D, hD⟩ : ∃ D, 1000 * own = D := ⟨_, rfl⟩
  have hd2 : wrap64 (1000 * own) = D := by rw [hd, hD]
  rw [hD] at hf hm
  have hk := World.alloc_heap_new w (.cells #[.int .i64 0, .int .i64 0] 23)
  have HF := Lib.hid hf; have HK := Lib.hid hk
  clear hf hk hX hX' h1 h2 hD hd
  rcases Int.lt_or_le 0 m with hlt | hle
  · obtain rfl : m = n := by rw [← hn]; omega
    clear hn
    go_enter Try.func54, Try.ntmps54
    go_wp2_with fail
    refine (HF.out _).mono ?_
    rintro e w1 ⟨rfl, P1⟩
    have hk1 := P1.heap HK.out (fun f => f)
    obtain ⟨d0, d1, fr⟩ := read23 hk1
    obtain ⟨_, c0, c1, hO⟩ := cell23 hk1 X.1 X.2
    have HZ := Lib.hid ((((Only.refl (fun _ => False) w).alloc _).trans P1).trans' hO (fun i hi e => by omega))
    clear P1 hk1 hO
    go_wp2_with fail
    refine bodyPost_ret (v := (Value.agg #[Value.int IntKind.i64 (Prod.fst (X)), Value.int IntKind.i64 (Prod.snd (X))])) ?_ rfl ⟨rfl, HZ.out⟩
    simp [results, Try.f54, go_sem, c0, c1]
  · obtain rfl : n = 0 := by rw [← hn]; omega
    clear hn
    go_enter Try.func54, Try.ntmps54
    go_wp2_with fail
    refine (HF.out _).mono ?_
    rintro e w1 ⟨rfl, P1⟩
    have hk1 := P1.heap HK.out (fun f => f)
    obtain ⟨d0, d1, fr⟩ := read23 hk1
    obtain ⟨_, c0, c1, hO⟩ := cell23 hk1 X.1 X.2
    have HZ := Lib.hid ((((Only.refl (fun _ => False) w).alloc _).trans P1).trans' hO (fun i hi e => by omega))
    clear P1 hk1 hO
    go_wp2_with fail
    refine bodyPost_ret (v := (Value.agg #[Value.int IntKind.i64 (Prod.fst (X)), Value.int IntKind.i64 (Prod.snd (X))])) ?_ rfl ⟨rfl, HZ.out⟩
    simp [results, Try.f54, go_sem, c0, c1]

set_option maxHeartbeats 1000000 in
set_option maxRecDepth 100000 in
theorem shown_any (r : Fr) (step : Int) (w : World) (hr : r.2 ≠ 0) (h0 : 1 ≤ step) (h100 : step ≤ 100) : Calls Try.prog 55 #[(Value.agg #[Value.int IntKind.i64 (Prod.fst (r)), Value.int IntKind.i64 (Prod.snd (r))]), .int .i64 step] w fun e w' => e = .returned (Value.agg #[Value.int IntKind.i64 (Prod.fst ((shownF r step))), Value.int IntKind.i64 (Prod.snd ((shownF r step)))]) ∧ Pure w w' := by
  obtain ⟨w3, hw3⟩ : ∃ x, x = ((w.alloc (.cells #[.int .i64 r.1, .int .i64 r.2] 23)).alloc (.cells #[.int .i64 0, .int .i64 0] 23)).alloc (.cells #[.int .i64 1000, .int .i64 1] 23) := ⟨_, rfl⟩
  have hP3 : Pure w w3 := by rw [hw3]; exact lay_pure [_, _, _] w
  have k0 : w3.heap[w.heap.size]? = some (.cells #[.int .i64 r.1, .int .i64 r.2] 23) := by rw [hw3]; exact lay_row [_, _, _] w 0 _ rfl
  have k1 : w3.heap[w.heap.size + 1]? = some (.cells #[.int .i64 0, .int .i64 0] 23) := by rw [hw3]; exact lay_row [_, _, _] w 1 _ rfl
  have k2 : w3.heap[w.heap.size + 1 + 1]? = some (.cells #[.int .i64 1000, .int .i64 1] 23) := by rw [hw3]; exact lay_row [_, _, _] w 2 _ rfl
  have hend : ∀ W : World, Pure w3 W → ∀ x : Fr, ∃ W', W' = (W.setCell ⟨w.heap.size + 1, 0, none⟩ (.int .i64 x.1)).setCell ⟨w.heap.size + 1, 1, none⟩ (.int .i64 x.2) ∧ W'.cell? ⟨w.heap.size + 1, 0, none⟩ = some (.int .i64 x.1) ∧ W'.cell? ⟨w.heap.size + 1, 1, none⟩ = some (.int .i64 x.2) ∧ Pure w W' := fun W hW x => by
    obtain ⟨_, c0, c1, hO⟩ := cell23 (hW.heap k1 (fun f => f)) x.1 x.2
    exact ⟨_, rfl, c0, c1, (hP3.trans hW).trans' hO (fun i hi e => by omega)⟩
  have hl := fun W => less_any (1000, 1) r W
  have hn := fun W => near_any r step W hr h0 h100
  obtain ⟨X, hX⟩ : ∃ X, shownF r step = X := ⟨_, rfl⟩
  unfold shownF at hX
  have HEND := Lib.hid hend; have HW := Lib.hid hw3; have K0 := Lib.hid k0; have K1 := Lib.hid k1; have K2 := Lib.hid k2
  clear hend hw3 k0 k1 k2 hP3 hr h0 h100
  obtain ⟨lo, hi, hlohi⟩ : ∃ lo hi, nearOf r step = (lo, hi) := ⟨_, _, rfl⟩
  rw [hlohi] at hX hn
  have hcase : (lessB (1000, 1) r = true ∧ X = (1000, 1)) ∨ (lessB (1000, 1) r = false ∧ X = lo) := by
    rcases h : lessB (1000, 1) r
    · right; rw [h] at hX; exact ⟨rfl, hX.symm⟩
    · left; rw [h] at hX; exact ⟨rfl, hX.symm⟩
  have hX2 : shownF r step = X := by unfold shownF; rw [hlohi]; exact hX
  rw [hX2]
  have HN := Lib.hid hn
  clear hX hlohi hn hX2
  rcases hcase with ⟨hb, rfl⟩ | ⟨hb, rfl⟩
  · rw [hb] at hl
    have HL := Lib.hid hl
    clear hl hb
    go_enter Try.func55, Try.ntmps55
    go_wp2_with fail
    refine (HL.out _).mono ?_
    rw [← HW.out]
    rintro e w4 ⟨rfl, P4⟩
    obtain ⟨x0, x1, _⟩ := read23 (P4.heap K2.out (fun f => f))
    obtain ⟨d0, d1, fr⟩ := read23 (P4.heap K1.out (fun f => f))
    obtain ⟨W', hW', c0, c1, hP'⟩ := HEND.out w4 P4 (1000, 1)
    have HZ := Lib.hid hP'
    clear P4 hP'
    go_wp2_with fail
    rw [← hW']
    refine bodyPost_ret (v := (Value.agg #[Value.int IntKind.i64 (Prod.fst (((1000, 1) : Fr))), Value.int IntKind.i64 (Prod.snd (((1000, 1) : Fr)))])) ?_ rfl ⟨rfl, HZ.out⟩
    simp [results, Try.f55, go_sem, c0, c1]
  · rw [hb] at hl
    have HL := Lib.hid hl
    clear hl hb
    go_enter Try.func55, Try.ntmps55
    go_wp2_with fail
    refine (HL.out _).mono ?_
    rw [← HW.out]
    rintro e w4 ⟨rfl, P4⟩
    have HP4 := Lib.hid P4
    clear P4
    obtain ⟨e0, e1, _⟩ := read23 (HP4.out.heap K0.out (fun f => f))
    go_wp2_with fail
    refine (HN.out _).mono ?_
    rintro e w5 ⟨rfl, P5⟩
    obtain ⟨w7, hw7⟩ : ∃ x, x = (w5.alloc (.cells #[.int .i64 X.1, .int .i64 X.2] 23)).alloc (.cells #[.int .i64 hi.1, .int .i64 hi.2] 23) := ⟨_, rfl⟩
    have P7 : Pure w3 w7 := (HP4.out.trans P5).trans (by rw [hw7]; exact lay_pure [_, _] w5)
    have n0 : w7.heap[w5.heap.size]? = some (.cells #[.int .i64 X.1, .int .i64 X.2] 23) := by rw [hw7]; exact lay_row [_, _] w5 0 _ rfl
    obtain ⟨x0, x1, _⟩ := read23 n0
    obtain ⟨d0, d1, fr⟩ := read23 (P7.heap K1.out (fun f => f))
    obtain ⟨W', hW', c0, c1, hP'⟩ := HEND.out w7 P7 X
    have HZ := Lib.hid hP'
    have HW7 := Lib.hid hw7
    rw [hw7] at x0 x1 d0 d1 fr hW'
    clear P5 P7 n0 hP' e0 e1 hw7
    go_wp2_with fail
    rw [← hW']
    refine bodyPost_ret (v := (Value.agg #[Value.int IntKind.i64 (Prod.fst (X)), Value.int IntKind.i64 (Prod.snd (X))])) ?_ rfl ⟨rfl, HZ.out⟩
    simp [results, Try.f55, go_sem, c0, c1]
end Go.Proofs.Ythnjfekkngpbjaa

/- Span. -/
namespace Go.Proofs.Ythnjfekkngpbjaa
open Go.RowKit Go.Shelf

theorem othersTo_succ (l : List Fr) (r : Int) (k : Nat) : othersTo l r (k + 1) = if (k : Int) = r then othersTo l r k else (wrap64 ((othersTo l r k).1 + (frAt l k).1), wrap64 ((othersTo l r k).2 + (frAt l k).2)) := by
  unfold othersTo; rw [List.range_succ, List.foldl_append]; rfl
theorem span1 {p : OPool} {r : Int} (h : pooledE p r ≠ 0) : spanR p r = ((0, 0), (0, 0), pooledE p r) := by unfold spanR; rw [if_pos h]
theorem span2 {p : OPool} {r : Int} (h : pooledE p r = 0) (k : (frAt p.stakes r.toNat).1 = 0) : spanR p r = ((0, 0), (0, 0), 20) := by unfold spanR; rw [if_neg (fun x => x h)]; simp [k]
theorem span3 {p : OPool} {r : Int} (h : pooledE p r = 0) (k : (frAt p.stakes r.toNat).1 ≠ 0) : spanR p r = (oddsF (frAt p.stakes r.toNat).2 (othersTo p.stakes r p.stakes.length).1 p.cut, oddsF (frAt p.stakes r.toNat).1 (othersTo p.stakes r p.stakes.length).2 p.cut, 0) := by unfold spanR; rw [if_neg (fun x => x h)]; simp [k]

set_option maxHeartbeats 4000000 in
set_option maxRecDepth 100000 in
theorem Span_any (D : Nat → Prop) (v : Value) (p : OPool) (r : Int) (w : World) (hp : Pairs D w v p.stakes) : Calls Try.prog 20 #[.agg #[v, .int .i64 p.cut], .int .i64 r] w fun e w' => e = .returned (.tuple #[(Value.agg #[Value.int IntKind.i64 (Prod.fst ((spanR p r).1)), Value.int IntKind.i64 (Prod.snd ((spanR p r).1))]), (Value.agg #[Value.int IntKind.i64 (Prod.fst ((spanR p r).2.1)), Value.int IntKind.i64 (Prod.snd ((spanR p r).2.1))]), .int .i64 (spanR p r).2.2]) ∧ Pure w w' := by
  obtain ⟨w3, hw3⟩ : ∃ x, x = ((w.alloc (.cells #[v, .int .i64 p.cut] 26)).alloc (.cells #[.int .i64 0, .int .i64 0] 23)).alloc (.cells #[.int .i64 0, .int .i64 0] 23) := ⟨_, rfl⟩
  have hP3 : Pure w w3 := by rw [hw3]; exact lay_pure [_, _, _] w
  have k0 : w3.heap[w.heap.size]? = some (.cells #[v, .int .i64 p.cut] 26) := by rw [hw3]; exact lay_row [_, _, _] w 0 _ rfl
  have k1 : w3.heap[w.heap.size + 1]? = some (.cells #[.int .i64 0, .int .i64 0] 23) := by rw [hw3]; exact lay_row [_, _, _] w 1 _ rfl
  have k2 : w3.heap[w.heap.size + 1 + 1]? = some (.cells #[.int .i64 0, .int .i64 0] 23) := by rw [hw3]; exact lay_row [_, _, _] w 2 _ rfl
  have hpool := pooled_any D v p r w3 (hp.pure hP3)
  have hp3 := hp.pure hP3
  obtain ⟨ad, cp, rfl⟩ := hp.form
  have hzero : ∀ W : World, Pure w3 W → ∀ E : Int, ∃ W', W' = ((((W.setCell ⟨w.heap.size + 1, 0, none⟩ (.int .i64 0)).setCell ⟨w.heap.size + 1, 1, none⟩ (.int .i64 0)).setCell ⟨w.heap.size + 1 + 1, 0, none⟩ (.int .i64 0)).setCell ⟨w.heap.size + 1 + 1, 1, none⟩ (.int .i64 0)) ∧
      (((W.setCell ⟨w.heap.size + 1, 0, none⟩ (.int .i64 0)).setCell ⟨w.heap.size + 1, 1, none⟩ (.int .i64 0)).cell? ⟨w.heap.size + 1 + 1, 0, none⟩ = some (.int .i64 0) ∧ ((W.setCell ⟨w.heap.size + 1, 0, none⟩ (.int .i64 0)).setCell ⟨w.heap.size + 1, 1, none⟩ (.int .i64 0)).cell? ⟨w.heap.size + 1 + 1, 1, none⟩ = some (.int .i64 0) ∧ ∀ j, ((W.setCell ⟨w.heap.size + 1, 0, none⟩ (.int .i64 0)).setCell ⟨w.heap.size + 1, 1, none⟩ (.int .i64 0)).frozen? ⟨w.heap.size + 1 + 1, j, none⟩ = false) ∧
      (W'.cell? ⟨w.heap.size + 1, 0, none⟩ = some (.int .i64 0) ∧ W'.cell? ⟨w.heap.size + 1, 1, none⟩ = some (.int .i64 0) ∧ W'.cell? ⟨w.heap.size + 1 + 1, 0, none⟩ = some (.int .i64 0) ∧ W'.cell? ⟨w.heap.size + 1 + 1, 1, none⟩ = some (.int .i64 0)) ∧ Pure w W' := fun W hW E => by
    obtain ⟨hi, hc, _, hO⟩ := two23 (hW.heap k1 (fun f => f)) (hW.heap k2 (fun f => f)) (by omega) (0, 0) (0, 0)
    exact ⟨_, rfl, hi, hc, (hP3.trans hW).trans' hO (fun i hi e => by omega)⟩
  have HZERO := Lib.hid hzero; have HW := Lib.hid hw3; have HP := Lib.hid hP3; have K0 := Lib.hid k0; have K1 := Lib.hid k1; have K2 := Lib.hid k2
  clear hzero hw3 hP3 k0 k1 k2 hp
  by_cases he : pooledE p r = 0
  · obtain ⟨q1, q2, q3, q4⟩ := pooled_zero he
    rw [he] at hpool
    have HPOOL := Lib.hid hpool
    clear hpool
    obtain ⟨t, rfl⟩ : ∃ t : Nat, r = t := ⟨r.toNat, by omega⟩
    have ht : t < p.stakes.length := by omega
    have hown := q4 t ht
    have hfr : ∀ i, i < p.stakes.length → ∃ b off, ad = some ⟨b, off, none⟩ ∧ w3.cell? ⟨b, off + i * 2, none⟩ = some (.int .i64 (frAt p.stakes i).1) ∧ w3.cell? ⟨b, off + i * 2 + 1, none⟩ = some (.int .i64 (frAt p.stakes i).2) := fun i hi => by
      obtain ⟨a1, len, c1, hform, hlen, _, _, hcell⟩ := hp3
      cases hform
      obtain ⟨b, off, ha, _, x0, x1⟩ := hcell i hi
      exact ⟨b, off, ha, x0, x1⟩
    obtain ⟨bb, off, rfl, x0, x1⟩ := hfr t ht
    obtain ⟨n, hn⟩ : ∃ n, p.stakes.length = n := ⟨_, rfl⟩
    obtain ⟨own, hown'⟩ : ∃ o, frAt p.stakes t = o := ⟨_, rfl⟩
    have hfr2 : ∀ i, i < n → w3.cell? ⟨bb, off + i * 2, none⟩ = some (.int .i64 (frAt p.stakes i).1) ∧ w3.cell? ⟨bb, off + i * 2 + 1, none⟩ = some (.int .i64 (frAt p.stakes i).2) := fun i hi => by
      obtain ⟨b, o, ha, y0, y1⟩ := hfr i (by omega)
      cases ha; exact ⟨y0, y1⟩
    rw [hn] at ht q3 K0 HW HPOOL
    rw [hown'] at x0 x1 hown
    have HX := Lib.hid (And.intro x0 x1); have HFR := Lib.hid hfr2
    clear hfr hfr2 hp3 q4 x0 x1
    by_cases hz : own.1 = 0
    · rw [span2 he (by rw [Int.toNat_natCast]; rw [hown']; exact hz)]
      rw [hn]
      have hzb : (own.1 == 0) = true := by simpa using hz
      clear hn hown' he
      go_enter Try.func20, Try.ntmps20
      go_wp2_with fail
      rw [← HW.out]
      refine HPOOL.out.mono ?_
      rintro e w4 ⟨rfl, P4⟩
      have HP4 := Lib.hid P4
      have L0 := Lib.hid (P4.heap K0.out (fun f => f))
      have d0 : w4.cell? ⟨w.heap.size, 0, none⟩ = some (.slice (some ⟨bb, off, none⟩) n cp) := cell_of_row _ _ 0 _ _ _ L0.out
      have x0 := P4.cell HX.out.1 (fun f => f)
      have x1 := P4.cell HX.out.2 (fun f => f)
      clear P4
      obtain ⟨w5, hw5⟩ : ∃ x, x = w4.alloc (.cells #[.int .i64 0, .int .i64 own.2] 76) := ⟨_, rfl⟩
      have P5 : Pure w3 w5 := by rw [hw5]; exact HP4.out.alloc _
      obtain ⟨a0, a1, af⟩ := read23 (P5.heap K1.out (fun f => f))
      obtain ⟨W', hW', ⟨i0, i1, jf⟩, ⟨b0, b1, c0, c1⟩, hP'⟩ := HZERO.out w5 P5 20
      have HZ := Lib.hid hP'
      have HW' := Lib.hid hW'; have HW5 := Lib.hid hw5
      rw [hw5] at a0 a1 af i0 i1 jf
      clear P5 hP' hW' hw5
      go_wp2_with fail
      rw [← HW5.out, ← HW'.out]
      refine bodyPost_ret (v := .tuple #[(Value.agg #[Value.int IntKind.i64 (Prod.fst (((0, 0) : Fr))), Value.int IntKind.i64 (Prod.snd (((0, 0) : Fr)))]), (Value.agg #[Value.int IntKind.i64 (Prod.fst (((0, 0) : Fr))), Value.int IntKind.i64 (Prod.snd (((0, 0) : Fr)))]), .int .i64 20]) ?_ rfl ⟨rfl, HZ.out⟩
      simp [results, Try.f20, go_sem, b0, b1, c0, c1]
    · rw [span3 he (by rw [Int.toNat_natCast]; rw [hown']; exact hz)]
      rw [Int.toNat_natCast, hn, hown']
      have hzb : (own.1 == 0) = false := by simpa using hz
      have ho1 := fun (o c : Int) W => odds_any own.2 o c W (by omega) (by omega)
      have ho2 := fun (o c : Int) W => odds_any own.1 o c W (by omega) (by omega)
      obtain ⟨cut, hcut⟩ : ∃ c, p.cut = c := ⟨_, rfl⟩
      rw [hcut] at HW K0 HPOOL ⊢
      obtain ⟨st, hst⟩ : ∃ s, p.stakes = s := ⟨_, rfl⟩
      rw [hst] at HFR ⊢
      have HO1 := Lib.hid ho1; have HO2 := Lib.hid ho2
      clear hn hown' he ho1 ho2 hown hz hcut hst q1 q2 HZERO
      go_enter Try.func20, Try.ntmps20
      go_wp2_with fail
      rw [← HW.out]
      refine HPOOL.out.mono ?_
      rintro e w4 ⟨rfl, P4⟩
      have HP4 := Lib.hid P4
      have L0 := Lib.hid (P4.heap K0.out (fun f => f))
      have d0 : w4.cell? ⟨w.heap.size, 0, none⟩ = some (.slice (some ⟨bb, off, none⟩) n cp) := cell_of_row _ _ 0 _ _ _ L0.out
      have x0 := P4.cell HX.out.1 (fun f => f)
      have x1 := P4.cell HX.out.2 (fun f => f)
      clear P4
      obtain ⟨w6, hw6⟩ : ∃ x, x = (w4.alloc (.cells #[.int .i64 own.1, .int .i64 own.2] 76)).alloc (.cells #[.int .i64 0, .int .i64 0] 76) := ⟨_, rfl⟩
      have P6 : Pure w4 w6 := by rw [hw6]; exact lay_pure [_, _] w4
      have n0 : w6.heap[w4.heap.size]? = some (.cells #[.int .i64 own.1, .int .i64 own.2] 76) := by rw [hw6]; exact lay_row [_, _] w4 0 _ rfl
      have n1 : w6.heap[w4.heap.size + 1]? = some (.cells #[.int .i64 (othersTo st t 0).1, .int .i64 (othersTo st t 0).2] 76) := by rw [hw6]; exact lay_row [_, _] w4 1 _ rfl
      obtain ⟨b9, hb9⟩ : ∃ b, b = w4.heap.size + 1 := ⟨_, rfl⟩
      rw [← hb9] at n1
      have hlt : w.heap.size + 1 + 1 < w4.heap.size := lt_of_block (HP4.out.heap K2.out (fun f => f))
      have HB9 := Lib.hid hb9; have N0 := Lib.hid n0; have N1 := Lib.hid n1; have HP6 := Lib.hid (HP4.out.trans P6); have HW6 := Lib.hid hw6; have HLT := Lib.hid hlt
      have L0 := Lib.hid (P6.heap L0.out (fun f => f))
      have e0 : w6.cell? ⟨w.heap.size, 0, none⟩ = some (.slice (some ⟨bb, off, none⟩) n cp) := cell_of_row _ _ 0 _ _ _ L0.out
      rw [hw6] at e0
      clear P6 n0 n1 hb9 hw6 hlt
      go_wp2_with fail
      rw [← HW6.out, ← HB9.out]
      go_loopw [33] (fun i wr => ∃ k : Nat, k ≤ n ∧ i = .int .i64 k ∧ Hid (wr.heap[b9]? = some (.cells #[.int .i64 (othersTo st t k).1, .int .i64 (othersTo st t k).2] 76)) ∧ Hid (Only (fun q => q = b9) w6 wr)) (fun i _ => n - (intOf i).toNat)
      case atStart => exact ⟨0, Nat.zero_le _, rfl, N1, Lib.hid (Only.refl _ _)⟩
      case round =>
        obtain ⟨k, hk, rfl, hrow, hO⟩ := hrel
        clear d0 e0 x0 x1
        by_cases hlt : k < n
        · obtain ⟨u, hu⟩ : ∃ u, frAt st k = u := ⟨_, rfl⟩
          obtain ⟨o, ho⟩ : ∃ o, othersTo st t k = o := ⟨_, rfl⟩
          have hs := othersTo_succ st t k
          rw [hu, ho] at hs
          have hb9 := HB9.out
          have hblt : bb ≠ b9 := by
            have h1 := World.block_lt_of_cell? _ _ HX.out.1
            have h2 := HP4.out.size
            have h1' : bb < w3.heap.size := h1
            omega
          have y0 := hO.out.cell (HP6.out.cell (HFR.out k hlt).1 (fun f => f)) hblt
          have y1 := hO.out.cell (HP6.out.cell (HFR.out k hlt).2 (fun f => f)) hblt
          rw [hu] at y0 y1
          rw [ho] at hrow
          obtain ⟨w7, hw7⟩ : ∃ x, x = wr.alloc (.cells #[.int .i64 u.1, .int .i64 u.2] 76) := ⟨_, rfl⟩
          have P7 : Pure wr w7 := by rw [hw7]; exact (Only.refl _ wr).alloc _
          have r9 := P7.heap hrow.out (fun f => f)
          have r7 : w7.heap[wr.heap.size]? = some (.cells #[.int .i64 u.1, .int .i64 u.2] 76) := by rw [hw7]; exact World.alloc_heap_new wr _
          have z0 : w7.cell? ⟨b9, 0, none⟩ = some (.int .i64 o.1) := cell_of_row _ _ 0 _ _ _ r9
          have z1 : w7.cell? ⟨b9, 1, none⟩ = some (.int .i64 o.2) := cell_of_row _ _ 1 _ _ _ r9
          have zf : ∀ j, w7.frozen? ⟨b9, j, none⟩ = false := fun j => arr_frozen r9 j
          have h9 := lt_of_block hrow.out
          have s1 := heap_setCell_same _ _ 0 _ _ (.int .i64 (wrap64 (o.1 + u.1))) r9
          have s2 := heap_setCell_same _ _ 1 _ _ (.int .i64 (wrap64 (o.2 + u.2))) s1
          have hO1 := (Only.refl (fun q => q = b9) w7).setCell (p := ⟨b9, 0, none⟩) (.inl rfl) (.int .i64 (wrap64 (o.1 + u.1)))
          have hO2 := hO1.setCell (p := ⟨b9, 1, none⟩) (.inl rfl) (.int .i64 (wrap64 (o.2 + u.2)))
          have r7' := hO1.heap r7 (by omega)
          have v0 : (w7.setCell ⟨b9, 0, none⟩ (.int .i64 (wrap64 (o.1 + u.1)))).cell? ⟨b9, 1, none⟩ = some (.int .i64 o.2) := cell_of_row _ _ 1 _ _ _ s1
          have v1 : (w7.setCell ⟨b9, 0, none⟩ (.int .i64 (wrap64 (o.1 + u.1)))).cell? ⟨wr.heap.size, 1, none⟩ = some (.int .i64 u.2) := cell_of_row _ _ 1 _ _ _ r7'
          have vf : ∀ j, (w7.setCell ⟨b9, 0, none⟩ (.int .i64 (wrap64 (o.1 + u.1)))).frozen? ⟨b9, j, none⟩ = false := fun j => arr_frozen s1 j
          have R9 := Lib.hid r9; have S2 := Lib.hid s2; have HO2 := Lib.hid hO2; have HW7 := Lib.hid hw7; have HS := Lib.hid hs; have HP7 := Lib.hid P7
          clear P7 r9 r7 s1 s2 hO1 hO2 r7' hs hb9 h9 hu ho
          rw [hw7] at z0 z1 zf v0 v1 vf
          clear hw7
          by_cases hkt : k = t
          · subst hkt
            go_wp2_with fail
            rw [← HW7.out]
            go_roundw
            case rel => exact ⟨k + 1, by omega, by go_num, Lib.hid (by rw [HS.out, if_pos rfl]; exact R9.out), Lib.hid (hO.out.trans (HP7.out.mono (fun _ _ f => f.elim)))⟩
            case measure => simp [intOf]; omega
          · have hkb : ((k : Int) == (t : Int)) = false := by simp; omega
            go_wp2_with fail
            rw [← HW7.out]
            go_roundw
            case rel => exact ⟨k + 1, by omega, by go_num, Lib.hid (by rw [HS.out, if_neg (by omega)]; exact S2.out), Lib.hid ((hO.out.trans (HP7.out.mono (fun _ _ f => f.elim))).trans HO2.out)⟩
            case measure => simp [intOf]; omega
        · obtain rfl : n = k := by omega
          have hk0 := hO.out.heap (HP6.out.heap K0.out (fun f => f)) (by have := HB9.out; have := HLT.out; omega)
          have hk1 := hO.out.heap (HP6.out.heap K1.out (fun f => f)) (by have := HB9.out; have := HLT.out; omega)
          have hk2 := hO.out.heap (HP6.out.heap K2.out (fun f => f)) (by have := HB9.out; have := HLT.out; omega)
          have hk8 := hO.out.heap N0.out (by have := HB9.out; omega)
          obtain ⟨o, ho⟩ : ∃ o, othersTo st t n = o := ⟨_, rfl⟩
          rw [ho] at hrow
          obtain ⟨X, hX⟩ : ∃ X, oddsF own.2 o.1 cut = X := ⟨_, rfl⟩
          obtain ⟨Y, hY⟩ : ∃ Y, oddsF own.1 o.2 cut = Y := ⟨_, rfl⟩
          have ho1 := HO1.out o.1 cut
          have ho2 := HO2.out o.2 cut
          rw [hX] at ho1
          rw [hY] at ho2
          have h9 := HB9.out
          have h4 := HLT.out
          obtain ⟨c8, hc8⟩ : ∃ c, c = w4.heap.size := ⟨_, rfl⟩
          rw [← hc8] at hk8 h9 h4 ⊢
          obtain ⟨s, hs⟩ : ∃ s, s = w.heap.size := ⟨_, rfl⟩
          rw [← hs] at hk0 hk1 hk2 h4 ⊢
          obtain ⟨G, hG⟩ : ∃ G : World → Prop, ∀ x, G x ↔ Only (fun q => q = s + 1 ∨ q = s + 1 + 1) wr x := ⟨_, fun _ => Iff.rfl⟩
          have gs : ∀ g' : InG G, g'.world.cell? ⟨s, 1, none⟩ = some (.int .i64 cut) := fun g' => cell_of_row _ _ 1 _ _ _ (((hG _).1 g'.holds).heap hk0 (by omega))
          have g80 : ∀ g' : InG G, g'.world.cell? ⟨c8, 0, none⟩ = some (.int .i64 own.1) := fun g' => cell_of_row _ _ 0 _ _ _ (((hG _).1 g'.holds).heap hk8 (by omega))
          have g81 : ∀ g' : InG G, g'.world.cell? ⟨c8, 1, none⟩ = some (.int .i64 own.2) := fun g' => cell_of_row _ _ 1 _ _ _ (((hG _).1 g'.holds).heap hk8 (by omega))
          have g90 : ∀ g' : InG G, g'.world.cell? ⟨b9, 0, none⟩ = some (.int .i64 o.1) := fun g' => cell_of_row _ _ 0 _ _ _ (((hG _).1 g'.holds).heap hrow.out (by omega))
          have g91 : ∀ g' : InG G, g'.world.cell? ⟨b9, 1, none⟩ = some (.int .i64 o.2) := fun g' => cell_of_row _ _ 1 _ _ _ (((hG _).1 g'.holds).heap hrow.out (by omega))
          have f0 : wr.cell? ⟨s, 0, none⟩ = some (.slice (some ⟨bb, off, none⟩) n cp) := cell_of_row _ _ 0 _ _ _ hk0
          haveI hInh : Inhabited (InG G) := ⟨⟨wr, (hG wr).2 (Only.refl _ _)⟩⟩
          have MKG := Lib.hid (fun x (h : Only (fun q => q = s + 1 ∨ q = s + 1 + 1) wr x) => (hG x).2 h)
          have hZ0 : Pure w wr := by
            have e1 := HP.out.trans HP6.out
            exact e1.trans' hO.out (fun i hi e => by omega)
          have HZ0 := Lib.hid hZ0; have HO1 := Lib.hid ho1; have HO2 := Lib.hid ho2; have K1 := Lib.hid hk1; have K2 := Lib.hid hk2; have HSS := Lib.hid hs
          have HXY := Lib.hid (And.intro ho (And.intro hX hY))
          clear hG hZ0 ho1 ho2 hk0 hk1 hk2 hk8 hrow hO hX hY h9 h4 hc8 hs ho
          go_wp2_with fail
          refine any_start G (by kernel_rfl) ?_
          refine any_take [0, 1, 2, 3, 4, 5, 7, 8, 9, 10, 11, 12] (by kernel_rfl) (MKG.out _ (Only.refl _ _).drew) (fun d _ _ _ _ h => by cases d <;> exact h) 5 (by kernel_rfl) ?_
          simp only [picks, List.drop_succ_cons, List.drop_zero, List.take_succ_cons, List.take_zero, List.cons_append, List.nil_append]
          repeat (go_big_quiet_step (fail))
          refine wpQuiet_nil ?_
          refine any_force (i := 6) (by kernel_rfl) rfl ?_
          go_wp2_with fail
          refine (HO1.out _).mono ?_
          rintro e w8 ⟨rfl, P8⟩
          have Q8 := Lib.hid ((Only.refl (fun _ => False) wr).drew.trans P8)
          clear P8
          go_wp2_with fail
          refine ⟨MKG.out _ (Q8.out.mono (fun _ _ f => f.elim)), ?_⟩
          refine any_force (i := 13) (by kernel_rfl) rfl ?_
          go_wp2_with fail
          refine (HO2.out _).mono ?_
          rintro e w9 ⟨rfl, P9⟩
          have Q9 := Lib.hid (Q8.out.trans P9)
          clear P9
          obtain ⟨a0, a1, af⟩ := read23 (Q9.out.heap K1.out (fun f => f))
          obtain ⟨⟨i0, i1, jf⟩, ⟨b0, b1, c0, c1⟩, hM, hOO⟩ := two23 (Q9.out.heap K1.out (fun f => f)) (Q9.out.heap K2.out (fun f => f)) (by omega) X Y
          have HM := Lib.hid hM; have HOO := Lib.hid hOO; have HB := Lib.hid (And.intro (And.intro b0 b1) (And.intro c0 c1))
          clear hM hOO b0 b1 c0 c1
          go_wp2_with fail
          refine ⟨MKG.out _ (Q9.out.mono (fun _ _ f => f.elim)), ?_⟩
          refine any_force (i := 14) (by kernel_rfl) rfl ?_
          go_wp2_with fail
          refine ⟨MKG.out _ ((Q9.out.mono (fun _ _ f => f.elim)).trans HM.out), ?_⟩
          refine any_force (i := 15) (by kernel_rfl) rfl ?_
          go_wp2_with fail
          refine ⟨MKG.out _ ((Q9.out.mono (fun _ _ f => f.elim)).trans HOO.out), ?_⟩
          refine any_take [16] (by kernel_rfl) (MKG.out _ ((Q9.out.mono (fun _ _ f => f.elim)).trans HOO.out)) (fun d _ _ _ _ h => by cases d <;> exact h) 0 (by kernel_rfl) ?_
          simp only [picks, List.drop_succ_cons, List.drop_zero, List.take_succ_cons, List.take_zero, List.cons_append, List.nil_append]
          repeat (go_big_quiet_step (fail))
          refine wpQuiet_nil ?_
          refine any_done (by kernel_rfl) ?_
          go_wp2_with fail
          refine bodyPost_ret (v := .tuple #[(Value.agg #[Value.int IntKind.i64 (Prod.fst (X)), Value.int IntKind.i64 (Prod.snd (X))]), (Value.agg #[Value.int IntKind.i64 (Prod.fst (Y)), Value.int IntKind.i64 (Prod.snd (Y))]), .int .i64 0]) ?_ rfl ⟨by rw [HXY.out.1, HXY.out.2.1, HXY.out.2.2], ((HZ0.out.trans Q9.out).trans' HOO.out (fun i hi e => by have := HSS.out; omega))⟩
          simp [results, Try.f20, go_sem, HB.out.1.1, HB.out.1.2, HB.out.2.1, HB.out.2.2]
  · rw [span1 he]
    obtain ⟨E, hE⟩ : ∃ E, pooledE p r = E := ⟨_, rfl⟩
    rw [hE] at he hpool ⊢
    have HPOOL := Lib.hid hpool
    clear hpool hE hp3
    have heb : (E == 0) = false := by simpa using he
    go_enter Try.func20, Try.ntmps20
    go_wp2_with fail
    rw [← HW.out]
    refine HPOOL.out.mono ?_
    rintro e w4 ⟨rfl, P4⟩
    obtain ⟨a0, a1, af⟩ := read23 (P4.heap K1.out (fun f => f))
    obtain ⟨W', hW', ⟨i0, i1, jf⟩, ⟨b0, b1, c0, c1⟩, hP'⟩ := HZERO.out w4 P4 E
    have HZ := Lib.hid hP'
    clear P4 hP'
    go_wp2_with fail
    rw [← hW']
    refine bodyPost_ret (v := .tuple #[(Value.agg #[Value.int IntKind.i64 (Prod.fst (((0, 0) : Fr))), Value.int IntKind.i64 (Prod.snd (((0, 0) : Fr)))]), (Value.agg #[Value.int IntKind.i64 (Prod.fst (((0, 0) : Fr))), Value.int IntKind.i64 (Prod.snd (((0, 0) : Fr)))]), .int .i64 E]) ?_ rfl ⟨rfl, HZ.out⟩
    simp [results, Try.f20, go_sem, b0, b1, c0, c1]
end Go.Proofs.Ythnjfekkngpbjaa

/- Board. -/
namespace Go.Proofs.Ythnjfekkngpbjaa
open Go.RowKit Go.Shelf

theorem oddsF_den {own others cut : Int} (h1 : 1 ≤ own) (h2 : own ≤ 1000000) : (oddsF own others cut).2 ≠ 0 := by
  have hd : wrap64 (1000 * own) = 1000 * own := by unfold wrap64; omega
  unfold oddsF
  rw [hd]
  exact (frac_den (B := 1000000000) _ (den := 1000 * own) ⟨by omega, by omega⟩ (by decide)).1
theorem span_den {p : OPool} {r : Int} (h : pooledE p r = 0) (h2 : (spanR p r).2.2 = 0) : (spanR p r).1.2 ≠ 0 ∧ (spanR p r).2.1.2 ≠ 0 := by
  obtain ⟨q1, q2, q3, q4⟩ := pooled_zero h
  by_cases hz : (frAt p.stakes r.toNat).1 = 0
  · rw [span2 h hz] at h2; cases h2
  · have := q4 r.toNat (by omega)
    rw [span3 h hz]
    exact ⟨oddsF_den (by omega) (by omega), oddsF_den (by omega) (by omega)⟩
theorem board1 {p : OPool} {r s : Int} (h : pooledE p r ≠ 0) : boardR p r s = ((0, 0), (0, 0), pooledE p r) := by unfold boardR; rw [if_pos h]
theorem board2 {p : OPool} {r s : Int} (h : pooledE p r = 0) (k : withinB 1 100 [s] = false) : boardR p r s = ((0, 0), (0, 0), 2) := by unfold boardR; rw [if_neg (fun x => x h), if_pos k]
theorem board3 {p : OPool} {r s : Int} (h : pooledE p r = 0) (k : withinB 1 100 [s] = true) (j : (spanR p r).2.2 ≠ 0) : boardR p r s = ((0, 0), (0, 0), (spanR p r).2.2) := by unfold boardR; rw [if_neg (fun x => x h), if_neg (by rw [k]; decide)]; simp [j]
theorem board4 {p : OPool} {r s : Int} (h : pooledE p r = 0) (k : withinB 1 100 [s] = true) (j : (spanR p r).2.2 = 0) : boardR p r s = (shownF (spanR p r).1 s, shownF (spanR p r).2.1 s, 0) := by unfold boardR; rw [if_neg (fun x => x h), if_neg (by rw [k]; decide)]; simp [j]

set_option maxHeartbeats 4000000 in
set_option maxRecDepth 100000 in
theorem Board_any (D : Nat → Prop) (v : Value) (p : OPool) (r step : Int) (w : World) (hp : Pairs D w v p.stakes) : Calls Try.prog 22 #[.agg #[v, .int .i64 p.cut], .int .i64 r, .int .i64 step] w fun e w' => e = .returned (.tuple #[(Value.agg #[Value.int IntKind.i64 (Prod.fst ((boardR p r step).1)), Value.int IntKind.i64 (Prod.snd ((boardR p r step).1))]), (Value.agg #[Value.int IntKind.i64 (Prod.fst ((boardR p r step).2.1)), Value.int IntKind.i64 (Prod.snd ((boardR p r step).2.1))]), .int .i64 (boardR p r step).2.2]) ∧ Pure w w' := by
  obtain ⟨w3, hw3⟩ : ∃ x, x = ((w.alloc (.cells #[v, .int .i64 p.cut] 26)).alloc (.cells #[.int .i64 0, .int .i64 0] 23)).alloc (.cells #[.int .i64 0, .int .i64 0] 23) := ⟨_, rfl⟩
  have hP3 : Pure w w3 := by rw [hw3]; exact lay_pure [_, _, _] w
  have k0 : w3.heap[w.heap.size]? = some (.cells #[v, .int .i64 p.cut] 26) := by rw [hw3]; exact lay_row [_, _, _] w 0 _ rfl
  have k1 : w3.heap[w.heap.size + 1]? = some (.cells #[.int .i64 0, .int .i64 0] 23) := by rw [hw3]; exact lay_row [_, _, _] w 1 _ rfl
  have k2 : w3.heap[w.heap.size + 1 + 1]? = some (.cells #[.int .i64 0, .int .i64 0] 23) := by rw [hw3]; exact lay_row [_, _, _] w 2 _ rfl
  have hpool := pooled_any D v p r w3 (hp.pure hP3)
  have hspan := fun W (hW : Pure w3 W) => Span_any D v p r W ((hp.pure hP3).pure hW)
  obtain ⟨ad, cp, rfl⟩ := hp.form
  have hzero : ∀ W : World, Pure w3 W → ∃ W', W' = ((((W.setCell ⟨w.heap.size + 1, 0, none⟩ (.int .i64 0)).setCell ⟨w.heap.size + 1, 1, none⟩ (.int .i64 0)).setCell ⟨w.heap.size + 1 + 1, 0, none⟩ (.int .i64 0)).setCell ⟨w.heap.size + 1 + 1, 1, none⟩ (.int .i64 0)) ∧
      (((W.setCell ⟨w.heap.size + 1, 0, none⟩ (.int .i64 0)).setCell ⟨w.heap.size + 1, 1, none⟩ (.int .i64 0)).cell? ⟨w.heap.size + 1 + 1, 0, none⟩ = some (.int .i64 0) ∧ ((W.setCell ⟨w.heap.size + 1, 0, none⟩ (.int .i64 0)).setCell ⟨w.heap.size + 1, 1, none⟩ (.int .i64 0)).cell? ⟨w.heap.size + 1 + 1, 1, none⟩ = some (.int .i64 0) ∧ ∀ j, ((W.setCell ⟨w.heap.size + 1, 0, none⟩ (.int .i64 0)).setCell ⟨w.heap.size + 1, 1, none⟩ (.int .i64 0)).frozen? ⟨w.heap.size + 1 + 1, j, none⟩ = false) ∧
      (W'.cell? ⟨w.heap.size + 1, 0, none⟩ = some (.int .i64 0) ∧ W'.cell? ⟨w.heap.size + 1, 1, none⟩ = some (.int .i64 0) ∧ W'.cell? ⟨w.heap.size + 1 + 1, 0, none⟩ = some (.int .i64 0) ∧ W'.cell? ⟨w.heap.size + 1 + 1, 1, none⟩ = some (.int .i64 0)) ∧ Pure w W' := fun W hW => by
    obtain ⟨hi, hc, _, hO⟩ := two23 (hW.heap k1 (fun f => f)) (hW.heap k2 (fun f => f)) (by omega) (0, 0) (0, 0)
    exact ⟨_, rfl, hi, hc, (hP3.trans hW).trans' hO (fun i hi e => by omega)⟩
  have HZERO := Lib.hid hzero; have HW := Lib.hid hw3; have HP := Lib.hid hP3; have K0 := Lib.hid k0; have K1 := Lib.hid k1; have K2 := Lib.hid k2
  clear hzero hw3 hP3 k0 k1 k2 hp
  obtain ⟨n, hn⟩ : ∃ n, p.stakes.length = n := ⟨_, rfl⟩
  obtain ⟨cut, hcut⟩ : ∃ c, p.cut = c := ⟨_, rfl⟩
  rw [hn, hcut] at hpool HW K0 ⊢
  simp only [hn, hcut] at hspan
  have hsd := fun h k => span_den (p := p) (r := r) h k
  have b1 := board1 (p := p) (r := r) (s := step)
  have b2 := board2 (p := p) (r := r) (s := step)
  have b3 := board3 (p := p) (r := r) (s := step)
  have b4 := board4 (p := p) (r := r) (s := step)
  obtain ⟨R, hR⟩ : ∃ R, boardR p r step = R := ⟨_, rfl⟩
  obtain ⟨E, hE⟩ : ∃ E, pooledE p r = E := ⟨_, rfl⟩
  obtain ⟨⟨X, Y, F⟩, hS⟩ : ∃ S, spanR p r = S := ⟨_, rfl⟩
  rw [hR] at b1 b2 b3 b4
  rw [hE] at b1 b2 b3 b4 hpool hsd
  rw [hS] at b3 b4 hspan hsd
  rw [hR]
  dsimp only at b3 b4 hspan hsd
  have HSPAN := Lib.hid hspan; have HPOOL := Lib.hid hpool
  clear hspan hpool hR hE hS hn hcut
  by_cases he : E = 0
  · obtain rfl := he
    clear b1
    rcases hw : withinB 1 100 [step]
    · obtain rfl := b2 rfl hw
      clear b2 b3 b4
      have hwi := fun W b h => within_one 1 100 step b W h
      rw [hw] at hwi
      have HWI := Lib.hid hwi
      clear hwi hw hsd
      go_enter Try.func22, Try.ntmps22
      go_wp2_with fail
      rw [← HW.out]
      refine HPOOL.out.mono ?_
      rintro e w4 ⟨rfl, P4⟩
      have HP4 := Lib.hid P4
      clear P4
      go_wp2_with fail
      refine (HWI.out _ _ (new_cell _ _ _ _ _ _ (by simp) rfl)).mono ?_
      rintro e w5 ⟨rfl, P5⟩
      have HP5 := Lib.hid ((HP4.out.alloc _).trans P5)
      clear P5
      obtain ⟨a0, a1, af⟩ := read23 (HP5.out.heap K1.out (fun f => f))
      obtain ⟨W', hW', ⟨i0, i1, jf⟩, ⟨b0, b1, c0, c1⟩, hP'⟩ := HZERO.out w5 HP5.out
      have HZ := Lib.hid hP'
      clear hP'
      go_wp2_with fail
      rw [← hW']
      refine bodyPost_ret (v := .tuple #[(Value.agg #[Value.int IntKind.i64 (Prod.fst (((0, 0) : Fr))), Value.int IntKind.i64 (Prod.snd (((0, 0) : Fr)))]), (Value.agg #[Value.int IntKind.i64 (Prod.fst (((0, 0) : Fr))), Value.int IntKind.i64 (Prod.snd (((0, 0) : Fr)))]), .int .i64 2]) ?_ rfl ⟨rfl, HZ.out⟩
      simp [results, Try.f22, go_sem, b0, b1, c0, c1]
    · have hs := within1 hw
      have hwi := fun W b h => within_one 1 100 step b W h
      rw [hw] at hwi
      have HWI := Lib.hid hwi
      clear hwi b2
      by_cases hf : F = 0
      · obtain rfl := hf
        obtain rfl := b4 rfl hw rfl
        obtain ⟨hx, hy⟩ := hsd rfl rfl
        have hs1 := fun W => shown_any X step W hx hs.1 hs.2
        have hs2 := fun W => shown_any Y step W hy hs.1 hs.2
        dsimp only
        obtain ⟨U, hU⟩ : ∃ U, shownF X step = U := ⟨_, rfl⟩
        obtain ⟨V, hV⟩ : ∃ V, shownF Y step = V := ⟨_, rfl⟩
        rw [hU] at hs1 ⊢
        rw [hV] at hs2 ⊢
        have HS1 := Lib.hid hs1; have HS2 := Lib.hid hs2
        clear hs1 hs2 hw hsd b3 b4 hx hy hs hU hV HZERO
        go_enter Try.func22, Try.ntmps22
        go_wp2_with fail
        rw [← HW.out]
        refine HPOOL.out.mono ?_
        rintro e w4 ⟨rfl, P4⟩
        have HP4 := Lib.hid P4
        clear P4
        go_wp2_with fail
        refine (HWI.out _ _ (new_cell _ _ _ _ _ _ (by simp) rfl)).mono ?_
        rintro e w5 ⟨rfl, P5⟩
        have HP5 := Lib.hid ((HP4.out.alloc _).trans P5)
        clear P5
        have L0 := HP5.out.heap K0.out (fun f => f)
        have d0 : w5.cell? ⟨w.heap.size, 0, none⟩ = some (.slice ad n cp) := cell_of_row _ _ 0 _ _ _ L0
        have d1 : w5.cell? ⟨w.heap.size, 1, none⟩ = some (.int .i64 cut) := cell_of_row _ _ 1 _ _ _ L0
        clear L0
        go_wp2_with fail
        refine (HSPAN.out _ HP5.out).mono ?_
        rintro e w6 ⟨rfl, P6⟩
        obtain ⟨w7, hw7⟩ : ∃ x, x = (w6.alloc (.cells #[.int .i64 X.1, .int .i64 X.2] 23)).alloc (.cells #[.int .i64 Y.1, .int .i64 Y.2] 23) := ⟨_, rfl⟩
        have P7 : Pure w6 w7 := by rw [hw7]; exact lay_pure [_, _] w6
        have n0 : w7.heap[w6.heap.size]? = some (.cells #[.int .i64 X.1, .int .i64 X.2] 23) := by rw [hw7]; exact lay_row [_, _] w6 0 _ rfl
        have n1 : w7.heap[w6.heap.size + 1]? = some (.cells #[.int .i64 Y.1, .int .i64 Y.2] 23) := by rw [hw7]; exact lay_row [_, _] w6 1 _ rfl
        have hQ7 : Pure w3 w7 := (HP5.out.trans P6).trans P7
        have hlt : w.heap.size + 1 + 1 < w6.heap.size := lt_of_block ((HP5.out.trans P6).heap K2.out (fun f => f))
        have m1 := hQ7.heap K1.out (fun f => f)
        have m2 := hQ7.heap K2.out (fun f => f)
        obtain ⟨G, hG⟩ : ∃ G : World → Prop, ∀ x, G x ↔ Only (fun k => k = w.heap.size + 1 ∨ k = w.heap.size + 1 + 1) w7 x := ⟨_, fun _ => Iff.rfl⟩
        have g8 : ∀ g' : InG G, g'.world.cell? ⟨w6.heap.size, 0, none⟩ = some (.int .i64 X.1) := fun g' => (read23 (((hG _).1 g'.holds).heap n0 (by omega))).1
        have g81 : ∀ g' : InG G, g'.world.cell? ⟨w6.heap.size, 1, none⟩ = some (.int .i64 X.2) := fun g' => (read23 (((hG _).1 g'.holds).heap n0 (by omega))).2.1
        have g9 : ∀ g' : InG G, g'.world.cell? ⟨w6.heap.size + 1, 0, none⟩ = some (.int .i64 Y.1) := fun g' => (read23 (((hG _).1 g'.holds).heap n1 (by omega))).1
        have g91 : ∀ g' : InG G, g'.world.cell? ⟨w6.heap.size + 1, 1, none⟩ = some (.int .i64 Y.2) := fun g' => (read23 (((hG _).1 g'.holds).heap n1 (by omega))).2.1
        haveI hInh : Inhabited (InG G) := ⟨⟨w7, (hG w7).2 (Only.refl _ _)⟩⟩
        have MKG := Lib.hid (fun x (h : Only (fun k => k = w.heap.size + 1 ∨ k = w.heap.size + 1 + 1) w7 x) => (hG x).2 h)
        have HQ7 := Lib.hid hQ7; have HW7 := Lib.hid hw7; have M1 := Lib.hid m1; have M2 := Lib.hid m2
        clear hG n0 n1 m1 m2 hlt hQ7 P7 P6 hw7 d0 d1
        go_wp2_with fail
        rw [← HW7.out]
        refine any_start G (by kernel_rfl) ?_
        refine any_take [0, 1, 3, 4] (by kernel_rfl) (MKG.out _ (Only.refl _ _).drew) (fun d _ _ _ _ h => by cases d <;> exact h) 5 (by kernel_rfl) ?_
        simp only [picks, List.drop_succ_cons, List.drop_zero, List.take_succ_cons, List.take_zero, List.cons_append, List.nil_append]
        repeat (go_big_quiet_step (fail))
        refine wpQuiet_nil ?_
        refine any_force (i := 2) (by kernel_rfl) rfl ?_
        go_wp2_with fail
        refine (HS1.out _).mono ?_
        rintro e w8 ⟨rfl, P8⟩
        have Q8 := Lib.hid ((Only.refl (fun _ => False) w7).drew.trans P8)
        clear P8
        go_wp2_with fail
        refine ⟨MKG.out _ (Q8.out.mono (fun _ _ f => f.elim)), ?_⟩
        refine any_force (i := 5) (by kernel_rfl) rfl ?_
        go_wp2_with fail
        refine (HS2.out _).mono ?_
        rintro e w9 ⟨rfl, P9⟩
        have Q9 := Lib.hid (Q8.out.trans P9)
        clear P9
        obtain ⟨a0, a1, af⟩ := read23 (Q9.out.heap M1.out (fun f => f))
        obtain ⟨⟨i0, i1, jf⟩, ⟨b0, b1, c0, c1⟩, hM, hOO⟩ := two23 (Q9.out.heap M1.out (fun f => f)) (Q9.out.heap M2.out (fun f => f)) (by omega) U V
        have HM := Lib.hid hM; have HOO := Lib.hid hOO; have HB := Lib.hid (And.intro (And.intro b0 b1) (And.intro c0 c1))
        clear hM hOO b0 b1 c0 c1
        go_wp2_with fail
        refine ⟨MKG.out _ (Q9.out.mono (fun _ _ f => f.elim)), ?_⟩
        refine any_force (i := 6) (by kernel_rfl) rfl ?_
        go_wp2_with fail
        refine ⟨MKG.out _ ((Q9.out.mono (fun _ _ f => f.elim)).trans HM.out), ?_⟩
        refine any_force (i := 7) (by kernel_rfl) rfl ?_
        go_wp2_with fail
        refine ⟨MKG.out _ ((Q9.out.mono (fun _ _ f => f.elim)).trans HOO.out), ?_⟩
        refine any_take [8] (by kernel_rfl) (MKG.out _ ((Q9.out.mono (fun _ _ f => f.elim)).trans HOO.out)) (fun d _ _ _ _ h => by cases d <;> exact h) 0 (by kernel_rfl) ?_
        simp only [picks, List.drop_succ_cons, List.drop_zero, List.take_succ_cons, List.take_zero, List.cons_append, List.nil_append]
        repeat (go_big_quiet_step (fail))
        refine wpQuiet_nil ?_
        refine any_done (by kernel_rfl) ?_
        go_wp2_with fail
        refine bodyPost_ret (v := .tuple #[(Value.agg #[Value.int IntKind.i64 (Prod.fst (U)), Value.int IntKind.i64 (Prod.snd (U))]), (Value.agg #[Value.int IntKind.i64 (Prod.fst (V)), Value.int IntKind.i64 (Prod.snd (V))]), .int .i64 0]) ?_ rfl ⟨rfl, (((HP.out.trans HQ7.out).trans Q9.out).trans' HOO.out (fun i hi e => by omega))⟩
        simp [results, Try.f22, go_sem, HB.out.1.1, HB.out.1.2, HB.out.2.1, HB.out.2.2]
      · obtain rfl := b3 rfl hw hf
        have hfb : (F == 0) = false := by simpa using hf
        clear b3 b4 hw hsd hs
        dsimp only
        go_enter Try.func22, Try.ntmps22
        go_wp2_with fail
        rw [← HW.out]
        refine HPOOL.out.mono ?_
        rintro e w4 ⟨rfl, P4⟩
        have HP4 := Lib.hid P4
        clear P4
        go_wp2_with fail
        refine (HWI.out _ _ (new_cell _ _ _ _ _ _ (by simp) rfl)).mono ?_
        rintro e w5 ⟨rfl, P5⟩
        have HP5 := Lib.hid ((HP4.out.alloc _).trans P5)
        clear P5
        have L0 := HP5.out.heap K0.out (fun f => f)
        have d0 : w5.cell? ⟨w.heap.size, 0, none⟩ = some (.slice ad n cp) := cell_of_row _ _ 0 _ _ _ L0
        have d1 : w5.cell? ⟨w.heap.size, 1, none⟩ = some (.int .i64 cut) := cell_of_row _ _ 1 _ _ _ L0
        clear L0
        go_wp2_with fail
        refine (HSPAN.out _ HP5.out).mono ?_
        rintro e w6 ⟨rfl, P6⟩
        obtain ⟨w7, hw7⟩ : ∃ x, x = (w6.alloc (.cells #[.int .i64 X.1, .int .i64 X.2] 23)).alloc (.cells #[.int .i64 Y.1, .int .i64 Y.2] 23) := ⟨_, rfl⟩
        have P7 : Pure w6 w7 := by rw [hw7]; exact lay_pure [_, _] w6
        have hQ7 : Pure w3 w7 := (HP5.out.trans P6).trans P7
        obtain ⟨a0, a1, af⟩ := read23 (hQ7.heap K1.out (fun f => f))
        obtain ⟨W', hW', ⟨i0, i1, jf⟩, ⟨b0, b1, c0, c1⟩, hP'⟩ := HZERO.out w7 hQ7
        have HZ := Lib.hid hP'; have HW7 := Lib.hid hw7; have HW' := Lib.hid hW'
        rw [hw7] at a0 a1 af i0 i1 jf
        clear hP' hQ7 P7 P6 hw7 hW' d0 d1
        go_wp2_with fail
        rw [← HW7.out, ← HW'.out]
        refine bodyPost_ret (v := .tuple #[(Value.agg #[Value.int IntKind.i64 (Prod.fst (((0, 0) : Fr))), Value.int IntKind.i64 (Prod.snd (((0, 0) : Fr)))]), (Value.agg #[Value.int IntKind.i64 (Prod.fst (((0, 0) : Fr))), Value.int IntKind.i64 (Prod.snd (((0, 0) : Fr)))]), .int .i64 F]) ?_ rfl ⟨rfl, HZ.out⟩
        simp [results, Try.f22, go_sem, b0, b1, c0, c1]
  · obtain rfl := b1 he
    have heb : (E == 0) = false := by simpa using he
    clear b1 b2 b3 b4 hsd
    go_enter Try.func22, Try.ntmps22
    go_wp2_with fail
    rw [← HW.out]
    refine HPOOL.out.mono ?_
    rintro e w4 ⟨rfl, P4⟩
    obtain ⟨a0, a1, af⟩ := read23 (P4.heap K1.out (fun f => f))
    obtain ⟨W', hW', ⟨i0, i1, jf⟩, ⟨b0, b1, c0, c1⟩, hP'⟩ := HZERO.out w4 P4
    have HZ := Lib.hid hP'
    clear P4 hP'
    go_wp2_with fail
    rw [← hW']
    refine bodyPost_ret (v := .tuple #[(Value.agg #[Value.int IntKind.i64 (Prod.fst (((0, 0) : Fr))), Value.int IntKind.i64 (Prod.snd (((0, 0) : Fr)))]), (Value.agg #[Value.int IntKind.i64 (Prod.fst (((0, 0) : Fr))), Value.int IntKind.i64 (Prod.snd (((0, 0) : Fr)))]), .int .i64 E]) ?_ rfl ⟨rfl, HZ.out⟩
    simp [results, Try.f22, go_sem, b0, b1, c0, c1]
end Go.Proofs.Ythnjfekkngpbjaa

/- An entry of a map, asked for and then written. -/
namespace Go.Proofs.Ythnjfekkngpbjaa
open Go.RowKit
set_option linter.unusedSectionVars false
section
variable {P : Program} {K : TypeId} {κ : Type} [DecidableEq κ] {kv : κ → Value}

theorem born_idx : ∀ (E : List (κ × Value × Nat)) (i : Nat) (e0 : κ × Value × Nat), (E.map (·.2.2)).Nodup → E[i]? = some e0 → (E.map (ent kv)).findIdx? (fun e => (e.born : Int) == (e0.2.2 : Int)) = some i
  | [], i, e0, _, h => by simp at h
  | e :: r, 0, e0, _, h => by
    simp at h; subst h
    simp [List.findIdx?_cons, ent]
  | e :: r, i + 1, e0, hn, h => by
    simp only [List.map_cons, List.nodup_cons] at hn
    have hr : r[i]? = some e0 := by simpa using h
    have hne : ¬ e.2.2 = e0.2.2 := fun q => hn.1 (by rw [q]; exact List.mem_map.2 ⟨e0, List.mem_of_getElem? hr, rfl⟩)
    have ih := born_idx r i e0 hn.2 hr
    simp only [List.map_cons, List.findIdx?_cons, ih]
    have hb : (((ent kv e).born : Int) == (e0.2.2 : Int)) = false := by simp [ent]; omega
    rw [hb]; simp

theorem store_at {T : TypeId} {W : World} {b c i : Nat} {E : List (κ × Value × Nat)} {e0 : κ × Value × Nat} (hm : MapIs kv W b E c) (he0 : E[i]? = some e0) (v : Value) :
    ∃ o', (Instr.entryStore T (.map (some b)) (.int .i64 (e0.2.2 : Int)) v).run P W = .ok () (W.putObj b o') ∧ MapIs kv (W.putObj b o') b (E.modify i (fun e => (e.1, v, e.2.2))) c ∧
      ∀ y, look (E.modify i (fun e => (e.1, v, e.2.2))) y = if y = e0.1 then some v else look E y := by
  have hi : (E.map (ent kv)).toArray.findIdx? (fun e => (e.born : Int) == (e0.2.2 : Int)) = some i := by
    rw [List.findIdx?_toArray]; exact born_idx E i e0 hm.born he0
  have hkeys : (E.modify i (fun e => (e.1, v, e.2.2))).map (·.1) = E.map (·.1) := by
    apply List.ext_getElem?; intro j
    simp only [List.getElem?_map, List.getElem?_modify]
    by_cases hij : i = j
    · subst hij; simp [he0]
    · simp [hij]
  have hborn : (E.modify i (fun e => (e.1, v, e.2.2))).map (·.2.2) = E.map (·.2.2) := by
    apply List.ext_getElem?; intro j
    simp only [List.getElem?_map, List.getElem?_modify]
    by_cases hij : i = j
    · subst hij; simp [he0]
    · simp [hij]
  refine ⟨.map ((E.map (ent kv)).toArray.modify i fun e => { e with val := v }) c, ?_, ⟨?_, by rw [hkeys]; exact hm.keys, by rw [hborn]; exact hm.born, ?_⟩, ?_⟩
  · simp only [Instr.entryStore, Sem.run_bind, MapKept.run_getObj_map hm.heap, Result.andThen_ok]
    have ha : (asInt (.int .i64 (e0.2.2 : Int))).run P W = .ok (e0.2.2 : Int) W := rfl
    rw [ha]
    simp only [Result.andThen_ok, hi]
    exact MapKept.run_setObj_map _ hm.heap
  · rw [putObj_at hm.heap]
    congr 2
    apply Array.ext_getElem?
    intro j
    simp only [Array.getElem?_modify, List.getElem?_toArray, List.getElem?_map, List.getElem?_modify]
    by_cases hij : i = j
    · subst hij; simp [he0, ent]
    · simp [hij]
  · intro e he
    obtain ⟨j, hj⟩ := List.getElem?_of_mem he
    simp only [List.getElem?_modify] at hj
    by_cases hij : i = j
    · subst hij; simp [he0] at hj; subst hj; exact hm.lt e0 (List.mem_of_getElem? he0)
    · simp [hij] at hj; exact hm.lt e (List.mem_of_getElem? hj)
  · intro y
    have hkn : ((E.modify i (fun e => (e.1, v, e.2.2))).map (·.1)).Nodup := by rw [hkeys]; exact hm.keys
    by_cases hy : y = e0.1
    · subst hy
      have hmem : (e0.1, v, e0.2.2) ∈ E.modify i (fun e => (e.1, v, e.2.2)) := List.mem_of_getElem? (i := i) (by simp [List.getElem?_modify, he0])
      simp only [if_true]; exact look_mem hkn hmem
    · simp only [hy, if_false]
      cases hl : Go.Proofs.Ythnjfekkngpbjaa.look E y with
      | some u =>
        obtain ⟨e, he, hey, heu⟩ := look_some hl
        obtain ⟨j, hj⟩ := List.getElem?_of_mem he
        have hij : i ≠ j := fun q => by subst q; rw [he0] at hj; cases hj; exact hy hey.symm
        have hmem : e ∈ E.modify i (fun e => (e.1, v, e.2.2)) := List.mem_of_getElem? (i := j) (by simp [List.getElem?_modify, hij, hj])
        have := look_mem hkn hmem
        rw [hey, heu] at this; exact this
      | none =>
        apply look_none
        intro e he q
        obtain ⟨j, hj⟩ := List.getElem?_of_mem he
        simp only [List.getElem?_modify] at hj
        by_cases hij : i = j
        · subst hij; simp [he0] at hj; subst hj; exact hy q.symm
        · simp [hij] at hj
          have := look_mem hm.keys (List.mem_of_getElem? hj)
          rw [q, hl] at this; cases this

theorem MapF.entry {T el : TypeId} {w : World} {b : Nat} {f : κ → Option Value} (h : MapF kv w b f) (L : KeyLaw P K kv) (hT : P.underlying T = some (.map K el)) {z : Value} (hz : (zeroValue el).run P w = .ok z w) (x : κ) :
    ∃ (o : Obj) (n : Nat) (u : Value), (Instr.mapEntry T (.map (some b)) (kv x)).run P w = .ok (.tuple #[u, .int .i64 (n : Int)]) (w.putObj b o) ∧
      ∀ W : World, W.heap[b]? = some o → ∀ v, ∃ o', (Instr.entryStore T (.map (some b)) (.int .i64 (n : Int)) v).run P W = .ok () (W.putObj b o') ∧ MapF kv (W.putObj b o') b (upd f x (some v)) := by
  obtain ⟨E, c, hm, hf⟩ := h
  simp only [Instr.mapEntry, Sem.run_bind, run_underlying hT, Result.andThen, MapKept.run_getObj_map hm.heap, L.check, run_find L]
  cases hx : hit x E 0 with
  | none =>
    have hne := hit_none hx
    simp only [Sem.run_bind, hz, Result.andThen]
    refine ⟨.map ((E.map (ent kv)).toArray.push { key := kv x, val := z, born := c }) (c + 1), c, z, ?_, fun W hW v => ?_⟩
    · rw [MapKept.run_setObj_map _ hm.heap]; rfl
    · have hm2 : MapIs kv W b (E ++ [(x, z, c)]) (c + 1) := by
        refine ⟨?_, ?_, ?_, ?_⟩
        · rw [hW]; simp [ent]
        · simp only [List.map_append, List.map_cons, List.map_nil, List.nodup_append]
          refine ⟨hm.keys, by simp, fun a ha b' hb' => ?_⟩
          simp only [List.mem_singleton] at hb'; subst hb'
          obtain ⟨e, he, rfl⟩ := List.mem_map.1 ha
          exact hne e he
        · simp only [List.map_append, List.map_cons, List.map_nil, List.nodup_append]
          refine ⟨hm.born, by simp, fun a ha b' hb' => ?_⟩
          simp only [List.mem_singleton] at hb'; subst hb'
          obtain ⟨e, he, rfl⟩ := List.mem_map.1 ha
          exact Nat.ne_of_lt (hm.lt e he)
        · intro e he
          rcases List.mem_append.1 he with he | he
          · exact Nat.lt_succ_of_lt (hm.lt e he)
          · simp only [List.mem_singleton] at he; subst he; exact Nat.lt_succ_self _
      obtain ⟨o', hr, hm3, hl⟩ := store_at (P := P) (T := T) hm2 (i := E.length) (e0 := (x, z, c)) (by simp) v
      refine ⟨o', hr, _, _, hm3, fun y => ?_⟩
      rw [hl y]
      unfold upd
      by_cases hy : y = x
      · simp [hy]
      · simp only [hy, if_false, hf, Go.Proofs.Ythnjfekkngpbjaa.look, List.find?_append]
        cases hq : E.find? (fun e => decide (y = e.1)) with
        | none => simp [hy]
        | some q => simp
  | some p =>
    obtain ⟨i, v0⟩ := p
    obtain ⟨k, e0, hk, he0, hex, _⟩ := hit_some hx
    obtain rfl : i = k := by omega
    have hget : (((E.map (ent kv)).toArray[i]?).map (·.key)).getD (kv x) = kv x := by simp [he0, ent, hex]
    have hgb : (((E.map (ent kv)).toArray[i]?).map (fun x => (x.born : Int))).getD 0 = (e0.2.2 : Int) := by simp [he0, ent]
    have hstay : (Instr.keyThatStays (kv x) (kv x)).run P w = .ok (kv x) w := by simp [Instr.keyThatStays, L.bits]
    simp only [hget, hgb, Sem.run_bind, hstay, Result.andThen]
    refine ⟨.map ((E.map (ent kv)).toArray.modify i fun e => { e with key := kv x }) c, e0.2.2, v0, ?_, fun W hW v => ?_⟩
    · rw [MapKept.run_setObj_map _ hm.heap]; simp only [Sem.run_pure, goInt, hgb]; rfl
    · have hsame : ((E.map (ent kv)).toArray.modify i fun e => { e with key := kv x }) = (E.map (ent kv)).toArray := by
        apply Array.ext_getElem?
        intro j
        simp only [Array.getElem?_modify, List.getElem?_toArray, List.getElem?_map]
        by_cases hij : i = j
        · subst hij; simp [he0, ent, hex]
        · simp [hij]
      have hm2 : MapIs kv W b E c := ⟨by rw [hW, hsame], hm.keys, hm.born, hm.lt⟩
      obtain ⟨o', hr, hm3, hl⟩ := store_at (P := P) (T := T) hm2 he0 v
      refine ⟨o', hr, _, _, hm3, fun y => ?_⟩
      rw [hl y, hex]
      unfold upd
      by_cases hy : y = x
      · simp [hy]
      · simp [hy, hf]
end
end Go.Proofs.Ythnjfekkngpbjaa

/- The desk: how it lies in memory. -/
namespace Go.Proofs.Ythnjfekkngpbjaa
open Go.RowKit Go.Shelf

def sideV (s : Side) : Value := .agg #[.int .i64 s.1, .bool s.2]
theorem side_law : KeyLaw Try.prog 118 sideV where
  inj := fun a b h => by
    obtain ⟨a1, a2⟩ := a; obtain ⟨b1, b2⟩ := b
    simp [sideV] at h; simp [h]
  check := fun em x w => by kernel_rfl
  eq := fun x y w => by
    obtain ⟨a, b⟩ := x; obtain ⟨c, d⟩ := y
    show (Op.equalIn 10000 118 (.agg #[.int .i64 a, .bool b]) (.agg #[.int .i64 c, .bool d])).run Try.prog w = _
    by_cases h : a = c
    · subst h
      by_cases k : b = d
      · subst k; simp [go_sem]
      · simp [go_sem, k]
    · simp [go_sem, h]
  now := ⟨_, Try.underlying118, .inl (fun x y => rfl)⟩
  bits := fun x => by simp [sideV, Instr.sameBits]

def deskCells (R : Int) (v : Value) (d : DeskS) (mb : Nat) : List Value := [.int .i64 R, v] ++ d.lo.flatMap pairC ++ d.hi.flatMap pairC ++ [.map (some mb)]
theorem five {α : Type} {l : List α} (h : l.length = 5) : ∃ a b c d e, l = [a, b, c, d, e] := by
  match l, h with
  | [a, b, c, d, e], _ => exact ⟨a, b, c, d, e, rfl⟩
structure DeskAt (w : World) (b mb : Nat) (v : Value) (R : Int) (d : DeskS) : Prop where
  l5 : d.lo.length = 5
  h5 : d.hi.length = 5
  row : w.heap[b]? = some (.cells (deskCells R v d mb).toArray 116)
  map : MapF sideV w mb (fun s => (d.by_ s).map (Value.int .i64))
theorem DeskAt.keep {w w' : World} {S : Nat → Prop} {b mb : Nat} {v : Value} {R : Int} {d : DeskS} (h : DeskAt w b mb v R d) (ho : Only S w w') (hb : ¬ S b) (hm : ¬ S mb) : DeskAt w' b mb v R d :=
  ⟨h.l5, h.h5, ho.heap h.row hb, h.map.keep ho hm⟩
theorem DeskAt.pure {w w' : World} {b mb : Nat} {v : Value} {R : Int} {d : DeskS} (h : DeskAt w b mb v R d) (ho : Pure w w') : DeskAt w' b mb v R d := h.keep ho (fun f => f) (fun f => f)
theorem DeskAt.ne {w : World} {b mb : Nat} {v : Value} {R : Int} {d : DeskS} (h : DeskAt w b mb v R d) : b ≠ mb := fun e => by
  obtain ⟨E, c, hm, _⟩ := h.map
  have h1 := hm.heap
  rw [← e, h.row] at h1
  cases h1
theorem DeskAt.runners {w : World} {b mb : Nat} {v : Value} {R : Int} {d : DeskS} (h : DeskAt w b mb v R d) : w.cell? ⟨b, 0, none⟩ = some (.int .i64 R) := cell_of_row _ _ 0 _ _ _ h.row
theorem DeskAt.quotes {w : World} {b mb : Nat} {v : Value} {R : Int} {d : DeskS} (h : DeskAt w b mb v R d) : w.cell? ⟨b, 1, none⟩ = some v := cell_of_row _ _ 1 _ _ _ h.row
theorem DeskAt.by_ {w : World} {b mb : Nat} {v : Value} {R : Int} {d : DeskS} (h : DeskAt w b mb v R d) : w.cell? ⟨b, 22, none⟩ = some (.map (some mb)) := by
  rw [cell_of_row _ _ 22 _ _ _ h.row]
  obtain ⟨a0, a1, a2, a3, a4, e⟩ := five h.l5
  obtain ⟨b0, b1, b2, b3, b4, e'⟩ := five h.h5
  simp [deskCells, e, e', pairC]
theorem DeskAt.lo {w : World} {b mb : Nat} {v : Value} {R : Int} {d : DeskS} (h : DeskAt w b mb v R d) (i : Nat) (hi : i < 5) : w.cell? ⟨b, 2 + i * 2, none⟩ = some (.int .i64 (frAt d.lo i).1) ∧ w.cell? ⟨b, 2 + i * 2 + 1, none⟩ = some (.int .i64 (frAt d.lo i).2) := by
  rw [cell_of_row _ _ _ _ _ _ h.row, cell_of_row _ _ _ _ _ _ h.row]
  obtain ⟨a0, a1, a2, a3, a4, e⟩ := five h.l5
  obtain ⟨b0, b1, b2, b3, b4, e'⟩ := five h.h5
  rcases (by omega : i = 0 ∨ i = 1 ∨ i = 2 ∨ i = 3 ∨ i = 4) with rfl | rfl | rfl | rfl | rfl <;> simp [deskCells, e, e', pairC, frAt]
theorem DeskAt.hi {w : World} {b mb : Nat} {v : Value} {R : Int} {d : DeskS} (h : DeskAt w b mb v R d) (i : Nat) (hi : i < 5) : w.cell? ⟨b, 12 + i * 2, none⟩ = some (.int .i64 (frAt d.hi i).1) ∧ w.cell? ⟨b, 12 + i * 2 + 1, none⟩ = some (.int .i64 (frAt d.hi i).2) := by
  rw [cell_of_row _ _ _ _ _ _ h.row, cell_of_row _ _ _ _ _ _ h.row]
  obtain ⟨a0, a1, a2, a3, a4, e⟩ := five h.l5
  obtain ⟨b0, b1, b2, b3, b4, e'⟩ := five h.h5
  rcases (by omega : i = 0 ∨ i = 1 ∨ i = 2 ∨ i = 3 ∨ i = 4) with rfl | rfl | rfl | rfl | rfl <;> simp [deskCells, e, e', pairC, frAt]
theorem DeskAt.frozen {w : World} {b mb : Nat} {v : Value} {R : Int} {d : DeskS} (h : DeskAt w b mb v R d) : ∀ j, w.frozen? ⟨b, j, none⟩ = false := fun j => arr_frozen h.row j
/-- A new value in lo or hi. -/
theorem DeskAt.setLo {w : World} {b mb : Nat} {v : Value} {R : Int} {d : DeskS} (h : DeskAt w b mb v R d) (i : Nat) (hi : i < 5) (x : Fr) :
    DeskAt ((w.setCell ⟨b, 2 + i * 2, none⟩ (.int .i64 x.1)).setCell ⟨b, 2 + i * 2 + 1, none⟩ (.int .i64 x.2)) b mb v R ⟨d.lo.set i x, d.hi, d.by_⟩ := by
  have s1 := heap_setCell_same _ _ (2 + i * 2) _ _ (.int .i64 x.1) h.row
  have s2 := heap_setCell_same _ _ (2 + i * 2 + 1) _ _ (.int .i64 x.2) s1
  have hO := ((Only.refl (fun k => k = b) w).setCell (p := ⟨b, 2 + i * 2, none⟩) (.inl rfl) (.int .i64 x.1)).setCell (p := ⟨b, 2 + i * 2 + 1, none⟩) (.inl rfl) (.int .i64 x.2)
  refine ⟨by simp [h.l5], h.h5, ?_, h.map.keep hO (fun e => h.ne e.symm)⟩
  rw [s2]
  obtain ⟨a0, a1, a2, a3, a4, e⟩ := five h.l5
  obtain ⟨b0, b1, b2, b3, b4, e'⟩ := five h.h5
  rcases (by omega : i = 0 ∨ i = 1 ∨ i = 2 ∨ i = 3 ∨ i = 4) with rfl | rfl | rfl | rfl | rfl <;> simp [deskCells, e, e', pairC]
theorem DeskAt.setHi {w : World} {b mb : Nat} {v : Value} {R : Int} {d : DeskS} (h : DeskAt w b mb v R d) (i : Nat) (hi : i < 5) (x : Fr) :
    DeskAt ((w.setCell ⟨b, 12 + i * 2, none⟩ (.int .i64 x.1)).setCell ⟨b, 12 + i * 2 + 1, none⟩ (.int .i64 x.2)) b mb v R ⟨d.lo, d.hi.set i x, d.by_⟩ := by
  have s1 := heap_setCell_same _ _ (12 + i * 2) _ _ (.int .i64 x.1) h.row
  have s2 := heap_setCell_same _ _ (12 + i * 2 + 1) _ _ (.int .i64 x.2) s1
  have hO := ((Only.refl (fun k => k = b) w).setCell (p := ⟨b, 12 + i * 2, none⟩) (.inl rfl) (.int .i64 x.1)).setCell (p := ⟨b, 12 + i * 2 + 1, none⟩) (.inl rfl) (.int .i64 x.2)
  refine ⟨h.l5, by simp [h.h5], ?_, h.map.keep hO (fun e => h.ne e.symm)⟩
  rw [s2]
  obtain ⟨a0, a1, a2, a3, a4, e⟩ := five h.l5
  obtain ⟨b0, b1, b2, b3, b4, e'⟩ := five h.h5
  rcases (by omega : i = 0 ∨ i = 1 ∨ i = 2 ∨ i = 3 ∨ i = 4) with rfl | rfl | rfl | rfl | rfl <;> simp [deskCells, e, e', pairC]
theorem DeskAt.setBy {w : World} {b mb : Nat} {v : Value} {R : Int} {d : DeskS} (h : DeskAt w b mb v R d) (o : Obj) (s : Side) (n : Int) (hm : MapF sideV (w.putObj mb o) mb (upd (fun s => (d.by_ s).map (Value.int .i64)) s (some (.int .i64 n)))) :
    DeskAt (w.putObj mb o) b mb v R ⟨d.lo, d.hi, fun t => if t = s then some n else d.by_ t⟩ :=
  ⟨h.l5, h.h5, (World.putObj_heap_other h.ne).trans h.row, hm.congr (fun t => by unfold upd; by_cases e : t = s <;> simp [e])⟩

/-- Several operations that may come next. -/
theorem any_many {P : Program} {ops : Array Oper} {Q : Exit → Act → World → Prop} {G : World → Prop} {is : List Nat} {f : Nat} {listed : Array Bool} {a : Act} {w : World} (hr : Region.ready .any ops listed = is) (hne : is ≠ [])
    (h : ∀ i ∈ is, ∃ o, ops[i]? = some o ∧ wpList P ops (fun e a' w' => match e with
      | .normal => G w' ∧ AnyC P ops G Q f (listed.setIfInBounds i true) a' w'
      | e => Q e a' w') [o] a w) : AnyC P ops G Q (f + 1) listed a w := by
  refine ⟨fun h0 => absurd (hr.symm.trans h0) hne, fun j hj => ?_⟩
  rw [hr] at hj
  obtain ⟨o, ho, h⟩ := h j hj
  have h2 : wpList P ops (fun e a' w' => match e with
      | .normal => (lastB .any ops j = false → ∃ g : InG G, w' = g.world) ∧ wpAnyG P .any ops (fun w' => ∃ g : InG G, w' = g.world) Q f (listed.setIfInBounds j true) a' w'
      | e => Q e a' w') [o] a w := by
    refine wpList_exits ?_ ?_ ?_ h
    · exact fun a' w' h => ⟨fun _ => ⟨⟨w', h.1⟩, rfl⟩, h.2⟩
    · exact fun _ _ _ h => h
    · exact fun h => h
  unfold wpList at h2
  unfold wpOp
  simp only [ho]
  split
  · rename_i hw
    rw [if_pos hw] at h2
    exact wp_exits (fun _ _ _ h => h) (fun h => h) h2
  · rename_i hw
    rw [if_neg hw] at h2
    exact h2
end Go.Proofs.Ythnjfekkngpbjaa

