/-
  Wait and Late.
-/
import Derived.Test.YtcephfmafmmilaaMb
import Derived.Test.YtcephfmafmmilaaMixedg
namespace Go.Proofs.Ytcephfmafmmilaa
open Go.RowKit Go.Shelf

/-- What lies behind open, while the closures run. -/
structure OpenW (v : Value) (c : List Int) (L : List Int) (base hi b g B6 B7 : Nat) (W : World) : Prop where
  made : Made c v base hi b W
  row : W.heap[g]? = some (.cells (L.map (Value.int .i64)).toArray 2 (0, 0))
  ints : Ints (fun k => k < base) W v c
  b6 : W.heap[B6]? = some (.cells #[.pointer (some ⟨b, 0, none⟩)] 67)
  b7 : W.heap[B7]? = some (.cells #[.slice (some ⟨g, 0, none⟩) 361 361] 22)
  le : base ≤ W.heap.size
theorem OpenW.only {v : Value} {c L : List Int} {base hi b g B6 B7 : Nat} {W W' : World} (h : OpenW v c L base hi b g B6 B7 W) (hm : Made c v base hi b W') (ho : Only (fun k => base ≤ k ∧ k < hi) W W') (hg : hi ≤ g) (h6 : hi ≤ B6) (h7 : hi ≤ B7) : OpenW v c L base hi b g B6 B7 W' :=
  ⟨hm, ho.heap h.row (fun e => by omega), h.ints.keep ho (fun k hk e => by omega), ho.heap h.b6 (fun e => by omega), ho.heap h.b7 (fun e => by omega), Nat.le_trans h.le ho.size⟩
theorem OpenW.pure {v : Value} {c L : List Int} {base hi b g B6 B7 : Nat} {W W' : World} (h : OpenW v c L base hi b g B6 B7 W) (ho : Pure W W') : OpenW v c L base hi b g B6 B7 W' :=
  ⟨h.made.pure ho, ho.heap h.row (fun f => f), h.ints.pure ho, ho.heap h.b6 (fun f => f), ho.heap h.b7 (fun f => f), Nat.le_trans h.le ho.size⟩
theorem leasts_len (ch : List (List Int)) (t : Nat) (h : 1 ≤ ch.length) : (leasts ch t).length = t + 1 := by
  have := lsTo_len ch t (ch.length - 1)
  rwa [lsTo_all ch t (ch.length - 1) (by omega)] at this
theorem leasts_bd {ch : List (List Int)} {t : Nat} (ht : t ≤ 399) (h1 : 1 ≤ ch.length) (hch : ∀ i, i < ch.length → GoodC (lAt ch i)) (i : Nat) : 0 ≤ nAt (leasts ch t) i ∧ nAt (leasts ch t) i ≤ 100000 := by
  have := lsTo_bd ht h1 (fun i hi => (hch i hi).2.2) (ch.length - 1) (by omega) i
  rwa [lsTo_all ch t (ch.length - 1) (by omega)] at this

set_option maxHeartbeats 2000000 in
set_option maxRecDepth 100000 in
theorem wait1_any (v : Value) (c L : List Int) (base hi b g B6 B7 k : Nat) (w : World) (hg : GoodC c) (hL : L.length = 361) (hb : ∀ i, 0 ≤ nAt L i ∧ nAt L i ≤ 100000) (h : OpenW v c L base hi b g B6 B7 w) (hhg : hi ≤ g) (hh6 : hi ≤ B6) (hh7 : hi ≤ B7) (hk : k ≤ 180) :
    Calls Try.prog 61 #[.int .i64 k, .pointer (some ⟨B6, 0, none⟩), .pointer (some ⟨B7, 0, none⟩)] w fun e w' => e = .returned (.int .i64 (mostOf c k - nAt L k)) ∧ OpenW v c L base hi b g B6 B7 w' ∧ Only (fun k => base ≤ k ∧ k < hi) w w' := by
  have d6 : w.cell? ⟨B6, 0, none⟩ = some (.pointer (some ⟨b, 0, none⟩)) := cell_of_row _ _ 0 _ _ _ h.b6
  have d7 : w.cell? ⟨B7, 0, none⟩ = some (.slice (some ⟨g, 0, none⟩) 361 361) := cell_of_row _ _ 0 _ _ _ h.b7
  have dk := arr_get h.row k (by omega)
  have hm := fun W (hW : Pure w W) => most_made k hg (h.ints.pure hW) (by omega) (h.made.pure hW) (Nat.le_trans h.le hW.size)
  have hmb := mostOf_bd hg.1 hg.2.2 k
  have hbk := hb k
  obtain ⟨x, hx⟩ : ∃ x, mostOf c k = x := ⟨_, rfl⟩
  obtain ⟨y, hy⟩ : ∃ y, nAt L k = y := ⟨_, rfl⟩
  rw [show L[k]?.getD 0 = y from hy] at dk
  simp only [hx] at hm
  rw [hx] at hmb ⊢
  rw [hy] at hbk ⊢
  obtain ⟨G, hG⟩ : ∃ G : World → Prop, ∀ x, G x ↔ Only (fun k => base ≤ k ∧ k < hi) w x := ⟨_, fun _ => Iff.rfl⟩
  have g6 : ∀ g' : InG G, g'.world.cell? ⟨B6, 0, none⟩ = some (.pointer (some ⟨b, 0, none⟩)) := fun g' => ((hG _).1 g'.holds).cell d6 (fun e => by have h : B6 < hi := e.2; omega)
  have g7 : ∀ g' : InG G, g'.world.cell? ⟨B7, 0, none⟩ = some (.slice (some ⟨g, 0, none⟩) 361 361) := fun g' => ((hG _).1 g'.holds).cell d7 (fun e => by have h : B7 < hi := e.2; omega)
  have gk : ∀ g' : InG G, g'.world.cell? ⟨g, k, none⟩ = some (.int .i64 y) := fun g' => ((hG _).1 g'.holds).cell dk (fun e => by have h : g < hi := e.2; omega)
  haveI hInh : Inhabited (InG G) := ⟨⟨w, (hG w).2 (Only.refl _ _)⟩⟩
  have MKG := Lib.hid (fun x (h : Only (fun k => base ≤ k ∧ k < hi) w x) => (hG x).2 h)
  have HM := Lib.hid hm; have HH := Lib.hid h
  clear hm hx hy hG h hL hb d6 d7 dk
  go_enter Try.func61, Try.ntmps61
  go_wp2_with fail
  refine any_start G (by kernel_rfl) ?_
  refine any_take [0, 1, 3, 4, 5, 6] (by kernel_rfl) (MKG.out _ (Only.refl _ _).drew) (fun d _ _ _ _ h => by cases d <;> exact h) 3 (by kernel_rfl) ?_
  simp only [picks, List.drop_succ_cons, List.drop_zero, List.take_succ_cons, List.take_zero, List.cons_append, List.nil_append]
  repeat (go_big_quiet_step (fail))
  refine wpQuiet_nil ?_
  refine any_force (i := 2) (by kernel_rfl) rfl ?_
  go_wp2_with fail
  refine (HM.out w.drew (Only.refl _ _).drew).mono ?_
  rintro e w5 ⟨rfl, hM5, hO5⟩
  have hG5 : Only (fun k => base ≤ k ∧ k < hi) w w5 := (Only.refl _ w).drew.trans hO5
  have HG5 := Lib.hid (MKG.out w5 hG5)
  have HO5 := Lib.hid (And.intro (HH.out.only hM5 hG5 hhg hh6 hh7) hG5)
  clear hM5 hO5 hG5 g6 g7 gk
  go_wp2_with fail
  refine ⟨HG5.out, ?_⟩
  refine any_take [7, 8] (by kernel_rfl) HG5.out (fun d _ _ _ _ h => by cases d <;> exact h) 0 (by kernel_rfl) ?_
  simp only [picks, List.drop_succ_cons, List.drop_zero, List.take_succ_cons, List.take_zero, List.cons_append, List.nil_append]
  repeat (go_big_quiet_step (fail))
  refine wpQuiet_nil ?_
  refine any_done (by kernel_rfl) ?_
  go_wp2
  go_ret
  exact ⟨rfl, HO5.out⟩

theorem lateAt_stop {c l : List Int} {k f u : Nat} (h : ¬ (u + 1 < l.length ∧ nAt l u < mostOf c k)) : lateAt c l k f u = u := by
  cases f with
  | zero => rfl
  | succ f => unfold lateAt; rw [if_neg h]
theorem lateAt_step {c l : List Int} {k f u : Nat} (h : u + 1 < l.length ∧ nAt l u < mostOf c k) : lateAt c l k (f + 1) u = lateAt c l k f (u + 1) := by
  conv => lhs; unfold lateAt
  rw [if_pos h]

set_option maxHeartbeats 4000000 in
set_option maxRecDepth 100000 in
theorem late1_any (v : Value) (c L : List Int) (base hi b g B6 B7 k : Nat) (w : World) (hg : GoodC c) (hL : L.length = 361) (h : OpenW v c L base hi b g B6 B7 w) (hhg : hi ≤ g) (hh6 : hi ≤ B6) (hh7 : hi ≤ B7) (hk : k ≤ 180) :
    Calls Try.prog 62 #[.int .i64 k, .pointer (some ⟨B7, 0, none⟩), .pointer (some ⟨B6, 0, none⟩)] w fun e w' => e = .returned (.int .i64 ((lateAt c L k 361 k : Nat) - (k : Int))) ∧ (k ≤ lateAt c L k 361 k ∧ lateAt c L k 361 k ≤ 361) ∧ OpenW v c L base hi b g B6 B7 w' ∧ Only (fun k => base ≤ k ∧ k < hi) w w' := by
  obtain ⟨R, hR⟩ : ∃ R, lateAt c L k 361 k = R := ⟨_, rfl⟩
  rw [hR]
  obtain ⟨x, hx⟩ : ∃ x, mostOf c k = x := ⟨_, rfl⟩
  have HR := Lib.hid hR; have HX := Lib.hid hx; have HH := Lib.hid h; have HL := Lib.hid hL
  clear hR hx h hL
  go_enter Try.func62, Try.ntmps62
  go_wp2_with fail
  go_loopw [5] (fun a wr => ∃ u f : Nat, k ≤ u ∧ u ≤ 360 ∧ a = .int .i64 u ∧ 361 ≤ f + u ∧ Hid (R = lateAt c L k f u) ∧ Hid (OpenW v c L base hi b g B6 B7 wr) ∧ Hid (Only (fun k => base ≤ k ∧ k < hi) w wr)) (fun a _ => 360 - (intOf a).toNat)
  case atStart => exact ⟨k, 361, by omega, by omega, rfl, by omega, Lib.hid HR.out.symm, HH, Lib.hid (Only.refl _ _)⟩
  case round =>
    obtain ⟨u, f, hku, hu, rfl, hf, hA, hW, hO⟩ := hrel
    have d6 : wr.cell? ⟨B6, 0, none⟩ = some (.pointer (some ⟨b, 0, none⟩)) := cell_of_row _ _ 0 _ _ _ hW.out.b6
    have d7 : wr.cell? ⟨B7, 0, none⟩ = some (.slice (some ⟨g, 0, none⟩) 361 361) := cell_of_row _ _ 0 _ _ _ hW.out.b7
    have du := arr_get hW.out.row u (by have := HL.out; omega)
    have hm := fun W (hP : Pure wr W) => most_made k hg (hW.out.ints.pure hP) (by omega) (hW.out.made.pure hP) (Nat.le_trans hW.out.le hP.size)
    simp only [HX.out] at hm
    obtain ⟨y, hy⟩ : ∃ y, nAt L u = y := ⟨_, rfl⟩
    rw [show L[u]?.getD 0 = y from hy] at du
    obtain ⟨G, hG⟩ : ∃ G : World → Prop, ∀ x, G x ↔ Only (fun k => base ≤ k ∧ k < hi) wr x := ⟨_, fun _ => Iff.rfl⟩
    have g6 : ∀ g' : InG G, g'.world.cell? ⟨B6, 0, none⟩ = some (.pointer (some ⟨b, 0, none⟩)) := fun g' => ((hG _).1 g'.holds).cell d6 (fun e => by have h : B6 < hi := e.2; omega)
    have g7 : ∀ g' : InG G, g'.world.cell? ⟨B7, 0, none⟩ = some (.slice (some ⟨g, 0, none⟩) 361 361) := fun g' => ((hG _).1 g'.holds).cell d7 (fun e => by have h : B7 < hi := e.2; omega)
    have gk : ∀ g' : InG G, g'.world.cell? ⟨g, u, none⟩ = some (.int .i64 y) := fun g' => ((hG _).1 g'.holds).cell du (fun e => by have h : g < hi := e.2; omega)
    haveI hInh : Inhabited (InG G) := ⟨⟨wr, (hG wr).2 (Only.refl _ _)⟩⟩
    have MKG := Lib.hid (fun x (h : Only (fun k => base ≤ k ∧ k < hi) wr x) => (hG x).2 h)
    have HM := Lib.hid hm; have HY := Lib.hid hy
    clear hm hy hG d6 d7 du
    by_cases hlt : u + 1 < 361
    · have hd1 : decide ((u : Int) + 1 < 361) = true := by simp; omega
      have hltI : (u : Int) + 1 < 361 := by omega
      go_wp2_with fail
      refine any_start G (by kernel_rfl) ?_
      refine any_take [0, 1, 2, 3, 4, 5, 6, 7, 8, 9, 10, 11] (by kernel_rfl) (MKG.out _ (Only.refl _ _).drew) (fun d _ _ _ _ h => by cases d <;> exact h) 3 (by kernel_rfl) ?_
      simp only [picks, List.drop_succ_cons, List.drop_zero, List.take_succ_cons, List.take_zero, List.cons_append, List.nil_append]
      repeat (go_big_quiet_step (fail))
      refine wpQuiet_nil ?_
      refine any_force (i := 12) (by kernel_rfl) rfl ?_
      go_wp2_with fail
      refine (HM.out wr.drew (Only.refl _ _).drew).mono ?_
      rintro e w5 ⟨rfl, hM5, hO5⟩
      have hG5 : Only (fun k => base ≤ k ∧ k < hi) wr w5 := (Only.refl _ wr).drew.trans hO5
      have HG5 := Lib.hid (MKG.out w5 hG5)
      have HO5 := Lib.hid (hW.out.only hM5 hG5 hhg hh6 hh7)
      have HOO := Lib.hid (hO.out.trans hG5)
      clear hM5 hO5 hG5 g6 g7 gk hW hO
      obtain ⟨f, rfl⟩ : ∃ f', f = f' + 1 := ⟨f - 1, by omega⟩
      by_cases hyx : y < x
      · have hd2 : decide (y < x) = true := by simpa using hyx
        have HA := Lib.hid (show R = lateAt c L k f (u + 1) from by rw [hA.out, lateAt_step ⟨by rw [HL.out]; exact hlt, by rw [HY.out, HX.out]; exact hyx⟩])
        clear hA
        go_wp2_with fail
        refine ⟨HG5.out, ?_⟩
        refine any_take [13, 14] (by kernel_rfl) HG5.out (fun d _ _ _ _ h => by cases d <;> exact h) 0 (by kernel_rfl) ?_
        simp only [picks, List.drop_succ_cons, List.drop_zero, List.take_succ_cons, List.take_zero, List.cons_append, List.nil_append]
        repeat (go_big_quiet_step (fail))
        refine wpQuiet_nil ?_
        refine any_done (by kernel_rfl) ?_
        go_wp2
        go_roundw
        case rel => exact ⟨u + 1, f, by omega, by omega, by go_num, by omega, HA, HO5, HOO⟩
        case measure => simp [intOf]; omega
      · have hd2 : decide (y < x) = false := by simpa using hyx
        have HA := Lib.hid (show R = u from by rw [hA.out, lateAt_stop (fun h => hyx (by rw [HY.out, HX.out] at h; exact h.2))])
        clear hA
        go_wp2_with fail
        refine ⟨HG5.out, ?_⟩
        refine any_take [13, 14] (by kernel_rfl) HG5.out (fun d _ _ _ _ h => by cases d <;> exact h) 0 (by kernel_rfl) ?_
        simp only [picks, List.drop_succ_cons, List.drop_zero, List.take_succ_cons, List.take_zero, List.cons_append, List.nil_append]
        repeat (go_big_quiet_step (fail))
        refine wpQuiet_nil ?_
        refine any_done (by kernel_rfl) ?_
        go_wp2
        go_ret
        exact ⟨by rw [HA.out]; rfl, by rw [HA.out]; omega, HO5.out, HOO.out⟩
    · have hd1 : decide ((u : Int) + 1 < 361) = false := by simp; omega
      have hltI : ¬ (u : Int) + 1 < 361 := by omega
      have HA := Lib.hid (show R = u from by rw [hA.out, lateAt_stop (fun h => hlt (by rw [HL.out] at h; exact h.1))])
      have HG5 := Lib.hid (MKG.out wr.drew (Only.refl _ _).drew)
      have HO5 := Lib.hid (hW.out.pure ((Only.refl (fun _ => False) wr).drew))
      have HOO := Lib.hid hO.out.drew
      clear hA hW hO
      go_wp2_with fail
      refine any_start G (by kernel_rfl) ?_
      refine any_take [0, 1, 2, 3, 4, 5, 6, 7, 8, 9, 10, 11] (by kernel_rfl) HG5.out (fun d _ _ _ _ h => by cases d <;> exact h) 3 (by kernel_rfl) ?_
      simp only [picks, List.drop_succ_cons, List.drop_zero, List.take_succ_cons, List.take_zero, List.cons_append, List.nil_append]
      repeat (go_big_quiet_step (fail))
      refine wpQuiet_nil ?_
      refine any_force (i := 12) (by kernel_rfl) rfl ?_
      go_wp2_with fail
      refine ⟨HG5.out, ?_⟩
      refine any_take [13, 14] (by kernel_rfl) HG5.out (fun d _ _ _ _ h => by cases d <;> exact h) 0 (by kernel_rfl) ?_
      simp only [picks, List.drop_succ_cons, List.drop_zero, List.take_succ_cons, List.take_zero, List.cons_append, List.nil_append]
      repeat (go_big_quiet_step (fail))
      refine wpQuiet_nil ?_
      refine any_done (by kernel_rfl) ?_
      go_wp2
      go_ret
      exact ⟨by rw [HA.out]; rfl, by rw [HA.out]; omega, HO5.out, HOO.out⟩
end Go.Proofs.Ytcephfmafmmilaa
