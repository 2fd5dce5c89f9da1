/-
  The exported functions of package post that ask a desk.
-/
import Derived.Test.YtngkmfddamaegaaPi
namespace Go.Proofs.Ytngkmfddamaegaa
open Go.RowKit

/-- A list of a function's own making. -/
def Fresh (w : World) (v : Value) (l : List Int) (w' : World) : Prop := w'.ownsRow w.heap.size 2 1 v l.length (l.map (.int .i64))
theorem truthW_len (p : Pool) (r : Nat) (t : Tot) : (truthW p r t).length = p.tickets.length := truthTo_len p r t _
theorem Fresh.pure {w w1 w2 : World} {v : Value} {l : List Int} (h : Fresh w v l w1) (hp : Pure w1 w2) : Fresh w v l w2 := by
  refine World.ownsRow.kept (row := none) h (pure_grown hp) ?_
  cases hv : v.ownBlock with
  | none => exact .inl rfl
  | some k => exact .inr (by simp)
theorem Fresh.from {w w0 w1 : World} {v : Value} {l : List Int} (h : Fresh w0 v l w1) (hp : w.heap.size ≤ w0.heap.size) : Fresh w v l w1 := owns_le h hp

/-! ### Dividend -/
def dividendR (p : Pool) (runner : Int) : Int × Int :=
  if checkW p runner 0 ≠ 0 then (0, checkW p runner 0) else if 0 ≤ worstLeft p runner.toNat 0 then (greatestW p runner.toNat, 0) else (0, 19)

set_option maxHeartbeats 1000000 in
set_option maxRecDepth 100000 in
theorem Dividend_any (D : Nat → Prop) (v : Value) (p : Pool) (runner : Int) (w : World) (hv : PoolAt D w v p) :
    Calls Try.prog 24 #[v, .int .i64 runner] w fun e w' => e = .returned (.tuple #[.int .i64 (dividendR p runner).1, .int .i64 (dividendR p runner).2]) ∧ Pure w w' := by
  have hC0 := hv
  obtain ⟨tk, rfl, hr⟩ := hv
  obtain ⟨a, len, cap, rfl, hlen, _, hm, _⟩ := hr
  have hP0 : Pure w (w.alloc (Obj.cells #[.slice a len cap, .int .i64 p.per, .int .i64 p.pence, .int .i64 p.keep, .int .i64 p.step] 24)) := (Only.refl _ w).alloc _
  have hC := open_any D _ p runner 0 _ (hC0.pure hP0)
  have HP0 := Lib.hid hP0
  clear hP0 hlen hC0
  go_enter Try.func24, Try.ntmps24
  go_wp2_with fail
  refine hC.mono ?_
  rintro e w1 ⟨P1, ⟨h0, rfl⟩ | ⟨h0, b, rfl, hD⟩⟩
  · have Q1 := Lib.hid (HP0.out.trans P1)
    have HR := Lib.hid (show dividendR p runner = (0, checkW p runner 0) by unfold dividendR; rw [if_pos h0])
    clear hC P1
    generalize checkW p runner 0 = ce at h0 HR ⊢
    go_wp2
    go_ret2
    exact ⟨by rw [HR.out]; rfl, Q1.out⟩
  · have Q1 := Lib.hid (HP0.out.trans P1)
    obtain ⟨hc, _, _, _, _⟩ := checkW_of h0
    obtain ⟨_, _, _, vs1, vs2, _⟩ := valid_of hc
    have hS := safe_any hD 0
    have HD := Lib.hid hD; have H0 := Lib.hid h0; have HV := Lib.hid (And.intro vs1 vs2)
    clear hC P1 h0 hD hc vs1 vs2
    go_wp2_with fail
    refine hS.mono ?_
    rintro e w2 ⟨rfl, P2⟩
    have hG := greatest_any (HD.out.pure P2) HV.out.1 HV.out.2
    have Q2 := Lib.hid (Q1.out.trans P2)
    clear hS P2
    by_cases hs : 0 ≤ worstLeft p runner.toNat 0
    · have HR := Lib.hid (show dividendR p runner = (greatestW p runner.toNat, 0) by unfold dividendR; rw [if_neg (by rw [H0.out]; simp), if_pos hs])
      have hs' : decide (0 ≤ worstLeft p runner.toNat 0) = true := decide_eq_true hs
      rw [hs']
      go_wp2_with fail
      refine hG.mono ?_
      rintro e w3 ⟨rfl, P3⟩
      go_wp2
      go_ret2
      exact ⟨by rw [HR.out]; rfl, Q2.out.trans P3⟩
    · have HR := Lib.hid (show dividendR p runner = (0, 19) by unfold dividendR; rw [if_neg (by rw [H0.out]; simp), if_neg hs])
      have hs' : decide (0 ≤ worstLeft p runner.toNat 0) = false := decide_eq_false hs
      rw [hs']
      go_wp2
      go_ret2
      exact ⟨by rw [HR.out]; rfl, Q2.out⟩

/-! ### Refute -/
def worstT (p : Pool) (runner dividend : Int) : Tot := (leastTo (worstF p dividend) (totalsOf p runner.toNat)).1
def refuteR (p : Pool) (runner dividend : Int) : List Int × Int :=
  if checkW p runner dividend ≠ 0 then ([], checkW p runner dividend) else if 0 ≤ worstLeft p runner.toNat dividend then ([], 5) else (truthW p runner.toNat (worstT p runner dividend), 0)

set_option maxHeartbeats 1000000 in
set_option maxRecDepth 100000 in
theorem Refute_any (D : Nat → Prop) (v : Value) (p : Pool) (runner dividend : Int) (w : World) (hv : PoolAt D w v p) :
    Calls Try.prog 31 #[v, .int .i64 runner, .int .i64 dividend] w fun e w' => ∃ u, e = .returned (.tuple #[u, .int .i64 (refuteR p runner dividend).2]) ∧ Fresh w u (refuteR p runner dividend).1 w' ∧ Pure w w' := by
  have hC0 := hv
  obtain ⟨tk, rfl, hr⟩ := hv
  obtain ⟨a, len, cap, rfl, hlen, _, hm, _⟩ := hr
  have hP0 : Pure w (w.alloc (Obj.cells #[.slice a len cap, .int .i64 p.per, .int .i64 p.pence, .int .i64 p.keep, .int .i64 p.step] 24)) := (Only.refl _ w).alloc _
  have hC := open_any D _ p runner dividend _ (hC0.pure hP0)
  have HP0 := Lib.hid hP0
  clear hP0 hlen hC0
  go_enter Try.func31, Try.ntmps31
  go_wp2_with fail
  refine hC.mono ?_
  rintro e w1 ⟨P1, ⟨h0, rfl⟩ | ⟨h0, b, rfl, hD⟩⟩
  · have Q1 := Lib.hid (HP0.out.trans P1)
    have HR := Lib.hid (show refuteR p runner dividend = ([], checkW p runner dividend) by unfold refuteR; rw [if_pos h0])
    clear hC P1
    generalize checkW p runner dividend = ce at h0 HR ⊢
    go_wp2
    go_ret2
    exact ⟨_, by rw [HR.out]; rfl, by rw [HR.out]; exact World.ownsRow_nil _ _ _ _, Q1.out⟩
  · have Q1 := Lib.hid (HP0.out.trans P1)
    obtain ⟨hc, hr0, hr1, _, _⟩ := checkW_of h0
    have hS := safe_any hD dividend
    have HD := Lib.hid hD; have H0 := Lib.hid h0
    have HRN := Lib.hid (show runner.toNat < p.tickets.length by omega)
    clear hC P1 h0 hD hc hr0 hr1
    go_wp2_with fail
    refine hS.mono ?_
    rintro e w2 ⟨rfl, P2⟩
    have Q2 := Lib.hid (Q1.out.trans P2)
    have HD2 := Lib.hid (HD.out.pure P2)
    clear hS P2
    by_cases hs : 0 ≤ worstLeft p runner.toNat dividend
    · have HR := Lib.hid (show refuteR p runner dividend = ([], 5) by unfold refuteR; rw [if_neg (by rw [H0.out]; simp), if_pos hs])
      have hs' : decide (0 ≤ worstLeft p runner.toNat dividend) = true := decide_eq_true hs
      rw [hs']
      go_wp2
      go_ret2
      exact ⟨_, by rw [HR.out]; rfl, by rw [HR.out]; exact World.ownsRow_nil _ _ _ _, Q2.out⟩
    · have HR := Lib.hid (show refuteR p runner dividend = (truthW p runner.toNat (worstT p runner dividend), 0) by unfold refuteR; rw [if_neg (by rw [H0.out]; simp), if_neg hs])
      have hs' : decide (0 ≤ worstLeft p runner.toNat dividend) = false := decide_eq_false hs
      rw [hs']
      have hW := worst_any HD2.out dividend
      rw [show (leastTo (worstF p dividend) (totalsOf p runner.toNat)).1 = worstT p runner dividend from rfl] at hW
      generalize worstT p runner dividend = t at hW HR
      go_wp2_with fail
      refine hW.mono ?_
      rintro e w3 ⟨rfl, P3⟩
      have hT := truth_any (HD2.out.pure P3) t HRN.out
      have Q3 := Lib.hid (Q2.out.trans P3)
      clear hW P3
      unfold totV at hT ⊢
      go_wp2_with fail
      refine hT.mono ?_
      rintro e w4 ⟨u, rfl, hO, P4⟩
      have HF := Lib.hid (show Fresh w u (truthW p runner.toNat t) w4 by
        unfold Fresh; rw [truthW_len]; exact owns_le hO Q3.out.size)
      clear hO hT
      go_wp2
      go_ret2
      exact ⟨u, by rw [HR.out]; rfl, by rw [HR.out]; exact HF.out, Q3.out.trans P4⟩

/-! ### Worst -/
def worstR (p : Pool) (runner dividend : Int) : List Int × Int × Int :=
  if checkW p runner dividend ≠ 0 then ([], 0, checkW p runner dividend) else (truthW p runner.toNat (worstT p runner dividend), worstLeft p runner.toNat dividend, 0)

set_option maxHeartbeats 1000000 in
set_option maxRecDepth 100000 in
theorem Worst_any (D : Nat → Prop) (v : Value) (p : Pool) (runner dividend : Int) (w : World) (hv : PoolAt D w v p) :
    Calls Try.prog 16 #[v, .int .i64 runner, .int .i64 dividend] w fun e w' => ∃ u, e = .returned (.tuple #[u, .int .i64 (worstR p runner dividend).2.1, .int .i64 (worstR p runner dividend).2.2]) ∧ Fresh w u (worstR p runner dividend).1 w' ∧ Pure w w' := by
  have hC0 := hv
  obtain ⟨tk, rfl, hr⟩ := hv
  obtain ⟨a, len, cap, rfl, hlen, _, hm, _⟩ := hr
  have hP0 : Pure w (w.alloc (Obj.cells #[.slice a len cap, .int .i64 p.per, .int .i64 p.pence, .int .i64 p.keep, .int .i64 p.step] 24)) := (Only.refl _ w).alloc _
  have hC := open_any D _ p runner dividend _ (hC0.pure hP0)
  have HP0 := Lib.hid hP0
  clear hP0 hlen hC0
  go_enter Try.func16, Try.ntmps16
  go_wp2_with fail
  refine hC.mono ?_
  rintro e w1 ⟨P1, ⟨h0, rfl⟩ | ⟨h0, b, rfl, hD⟩⟩
  · have Q1 := Lib.hid (HP0.out.trans P1)
    have HR := Lib.hid (show worstR p runner dividend = ([], 0, checkW p runner dividend) by unfold worstR; rw [if_pos h0])
    clear hC P1
    generalize checkW p runner dividend = ce at h0 HR ⊢
    go_wp2
    go_ret3
    exact ⟨_, by rw [HR.out]; rfl, by rw [HR.out]; exact World.ownsRow_nil _ _ _ _, Q1.out⟩
  · have Q1 := Lib.hid (HP0.out.trans P1)
    obtain ⟨hc, hr0, hr1, _, _⟩ := checkW_of h0
    have HD := Lib.hid hD; have H0 := Lib.hid h0
    have HRN := Lib.hid (show runner.toNat < p.tickets.length by omega)
    have hW := worst_any hD dividend
    have HR := Lib.hid (show worstR p runner dividend = (truthW p runner.toNat (worstT p runner dividend), worstLeft p runner.toNat dividend, 0) by unfold worstR; rw [if_neg (by rw [h0]; simp)])
    have HL := Lib.hid (show worstLeft p runner.toNat dividend = leftW p (worstT p runner dividend).1 (worstT p runner dividend).2.1 dividend from rfl)
    clear hC P1 h0 hD hc hr0 hr1
    rw [show (leastTo (worstF p dividend) (totalsOf p runner.toNat)).1 = worstT p runner dividend from rfl] at hW
    generalize worstT p runner dividend = t at hW HR HL
    go_wp2_with fail
    refine hW.mono ?_
    rintro e w3 ⟨rfl, P3⟩
    have hP4 : Pure w3 (w3.alloc (.cells #[.int .i64 t.1, .int .i64 t.2.1, .int .i64 t.2.2] 79)) := (Only.refl _ w3).alloc _
    have Q3 := Lib.hid ((Q1.out.trans P3).trans hP4)
    have HD3 := Lib.hid ((HD.out.pure P3).pure hP4)
    clear hW P3 hP4
    unfold totV
    go_wp2_with fail
    have c0 : (w3.alloc (.cells #[.int .i64 t.1, .int .i64 t.2.1, .int .i64 t.2.2] 79)).cell? ⟨w3.heap.size, 0, none⟩ = some (.int .i64 t.1) := by simp
    have c1 : (w3.alloc (.cells #[.int .i64 t.1, .int .i64 t.2.1, .int .i64 t.2.2] 79)).cell? ⟨w3.heap.size, 1, none⟩ = some (.int .i64 t.2.1) := by simp
    have c2 : (w3.alloc (.cells #[.int .i64 t.1, .int .i64 t.2.1, .int .i64 t.2.2] 79)).cell? ⟨w3.heap.size, 2, none⟩ = some (.int .i64 t.2.2) := by simp
    generalize (w3.alloc (.cells #[.int .i64 t.1, .int .i64 t.2.1, .int .i64 t.2.2] 79)) = w4 at Q3 HD3 c0 c1 c2 ⊢
    have g0 := fun g => grow_cell c0 g; have g1 := fun g => grow_cell c1 g; have g2 := fun g => grow_cell c2 g
    refine mixed_start (by kernel_rfl) ?_
    refine mixed_take [0, 1, 3, 4, 5, 6, 7] (by kernel_rfl) (Only.refl _ _).drew (fun d _ _ _ _ h => by cases d <;> exact h) 5 (by kernel_rfl) ?_
    simp only [picks, List.drop_succ_cons, List.drop_zero, List.take_succ_cons, List.take_zero, List.cons_append, List.nil_append]
    repeat (go_big_quiet_step (fail))
    refine wpQuiet_nil ?_
    have P0 : Pure w4 w4.drew := (Only.refl _ _).drew
    have hT := truth_any (HD3.out.pure P0) t HRN.out
    unfold totV at hT
    refine mixed_force (i := 2) (by kernel_rfl) rfl ?_
    go_wp2_with fail
    refine hT.mono ?_
    rintro e w5 ⟨u, rfl, hO, P5⟩
    have P6 := P0.trans P5
    have HF := Lib.hid (show Fresh w u (truthW p runner.toNat t) w5 by
      unfold Fresh; rw [truthW_len]; exact owns_le hO (Nat.le_trans Q3.out.size P0.size))
    have hLf := leftOf_any (HD3.out.pure P6) t t.2.1 dividend
    unfold totV at hLf
    have P6' := Lib.hid P6
    clear hO hT P5 P6 P0
    go_wp2_with fail
    refine ⟨P6'.out, ?_⟩
    refine mixed_force (i := 8) (by kernel_rfl) rfl ?_
    go_wp2_with fail
    refine hLf.mono ?_
    rintro e w6 ⟨rfl, P7⟩
    have P8 := Lib.hid (P6'.out.trans P7)
    have HF2 := Lib.hid (HF.out.pure P7)
    clear hLf P7
    go_wp2_with fail
    refine ⟨P8.out, ?_⟩
    refine mixed_force (i := 9) (by kernel_rfl) rfl ?_
    go_wp2_with fail
    refine ⟨P8.out, ?_⟩
    refine mixed_force (i := 10) (by kernel_rfl) rfl ?_
    go_wp2_with fail
    refine ⟨P8.out, ?_⟩
    refine mixed_force (i := 11) (by kernel_rfl) rfl ?_
    go_wp2_with fail
    refine ⟨P8.out, wpAnyG_done (by kernel_rfl) ?_⟩
    go_wp2
    go_ret3
    exact ⟨u, by rw [HR.out, HL.out]; rfl, by rw [HR.out]; exact HF2.out, Q3.out.trans P8.out⟩

end Go.Proofs.Ytngkmfddamaegaa
