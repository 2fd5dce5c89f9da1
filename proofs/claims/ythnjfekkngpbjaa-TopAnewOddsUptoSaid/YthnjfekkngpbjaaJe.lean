/-
  Parts of the proof: Pf, Pb, Ot, Ox, Pc, Pg, Oe, Oi.
-/
import Derived.Test.YthnjfekkngpbjaaJd
import Derived.Deep.CutBlock
/- chances. -/
namespace Go.Proofs.Ythnjfekkngpbjaa
open Go.RowKit Go.Shelf

theorem owns_full2 {w : World} {B : Nat} {e : TypeId} {g n s : Nat} {xs : List Value} (h : w.ownsRow B e s (.slice (some ⟨g, 0, none⟩) n n) n xs) : w.heap[g]? = some (.cells xs.toArray e (0, 0)) := by
  rcases h.2 with ⟨h', _⟩ | ⟨g', cap, cur, h', hb, hg, hle, hm, hcs, htk⟩
  · simp at h'
  · simp only [Value.slice.injEq, Option.some.injEq, Addr.mk.injEq, and_true, true_and] at h'
    obtain ⟨rfl, rfl⟩ := h'
    rw [hg, ← htk, List.take_of_length_le (by simpa using Nat.le_of_eq hcs)]
theorem ch_go {d : DeskS} {f r : Nat} {own : List Fr} (hr : r < own.length) (h : (chStep d own r).2 = false) : chFrom d (f + 1) r own = chFrom d f (r + 1) (chStep d own r).1 := by
  conv => lhs; unfold chFrom
  rw [if_pos hr, if_neg (by rw [h]; decide)]
theorem ch_stop {d : DeskS} {f r : Nat} {own : List Fr} (hr : r < own.length) (h : (chStep d own r).2 = true) : chFrom d (f + 1) r own = (chStep d own r).1 := by
  conv => lhs; unfold chFrom
  rw [if_pos hr, if_pos h]
theorem ch_end {d : DeskS} {f r : Nat} {own : List Fr} (hr : ¬ r < own.length) : chFrom d f r own = own := by
  cases f with
  | zero => rfl
  | succ f => conv => lhs; unfold chFrom
              rw [if_neg hr]
theorem chStep_eq {d : DeskS} {own : List Fr} {r : Nat} {o X : Fr} (ho : othersF (own.set r (0, 1)) = o) (hX : plusF (1, 1) (wrap64 (-o.1), o.2) = X) :
    chStep d own r = if !lessB (frAt d.hi r) X then ((own.set r (0, 1)).set r X, true) else ((own.set r (0, 1)).set r (frAt d.hi r), false) := by
  unfold chStep; dsimp only; rw [ho, hX]
/-- A desk's row alone. -/
structure DeskRow (w : World) (b mb : Nat) (v : Value) (R : Int) (d : DeskS) : Prop where
  l5 : d.lo.length = 5
  h5 : d.hi.length = 5
  row : w.heap[b]? = some (.cells (deskCells R v d mb).toArray 116)
theorem DeskRow.keep {w w' : World} {S : Nat → Prop} {b mb : Nat} {v : Value} {R : Int} {d : DeskS} (h : DeskRow w b mb v R d) (ho : Only S w w') (hb : ¬ S b) : DeskRow w' b mb v R d :=
  ⟨h.l5, h.h5, ho.heap h.row hb⟩
theorem DeskRow.pure {w w' : World} {b mb : Nat} {v : Value} {R : Int} {d : DeskS} (h : DeskRow w b mb v R d) (ho : Pure w w') : DeskRow w' b mb v R d := h.keep ho (fun f => f)
theorem DeskAt.toRow {w : World} {b mb : Nat} {v : Value} {R : Int} {d : DeskS} (h : DeskAt w b mb v R d) : DeskRow w b mb v R d := ⟨h.l5, h.h5, h.row⟩
theorem DeskRow.runners {w : World} {b mb : Nat} {v : Value} {R : Int} {d : DeskS} (h : DeskRow w b mb v R d) : w.cell? ⟨b, 0, none⟩ = some (.int .i64 R) := cell_of_row _ _ 0 _ _ _ h.row
theorem DeskRow.hi {w : World} {b mb : Nat} {v : Value} {R : Int} {d : DeskS} (h : DeskRow w b mb v R d) (i : Nat) (hi : i < 5) : w.cell? ⟨b, 12 + i * 2, none⟩ = some (.int .i64 (frAt d.hi i).1) ∧ w.cell? ⟨b, 12 + i * 2 + 1, none⟩ = some (.int .i64 (frAt d.hi i).2) := by
  rw [cell_of_row _ _ _ _ _ _ h.row, cell_of_row _ _ _ _ _ _ h.row]
  obtain ⟨a0, a1, a2, a3, a4, e⟩ := five h.l5
  obtain ⟨b0, b1, b2, b3, b4, e'⟩ := five h.h5
  rcases (by omega : i = 0 ∨ i = 1 ∨ i = 2 ∨ i = 3 ∨ i = 4) with rfl | rfl | rfl | rfl | rfl <;> simp [deskCells, e, e', pairC, frAt]
theorem desk_src {w : World} {b mb : Nat} {v : Value} {m : Int} {d : DeskS} (hd : DeskRow w b mb v m d) (R : Nat) (hR : R ≤ 5) : ∀ j u, ((d.lo.take R).flatMap pairC)[j]? = some u → w.cell? ((⟨b, 2, none⟩ : Addr).add j) = some u := by
  intro j u h
  have hadd : (⟨b, 2, none⟩ : Addr).add j = ⟨b, 2 + j, none⟩ := by unfold Addr.add; split <;> simp_all
  rw [hadd, cell_of_row _ _ _ _ _ _ hd.row]
  obtain ⟨a0, a1, a2, a3, a4, e⟩ := five hd.l5
  have hp : (d.lo.take R).flatMap pairC <+: d.lo.flatMap pairC := by
    have h2 : d.lo.take R ++ d.lo.drop R = d.lo := List.take_append_drop R d.lo
    exact ⟨(d.lo.drop R).flatMap pairC, by rw [← List.flatMap_append, h2]⟩
  obtain ⟨t, ht⟩ := hp
  have hj : (d.lo.flatMap pairC)[j]? = some u := by
    rw [← ht, List.getElem?_append_left (by
      have := (List.getElem?_eq_some_iff.1 h).1; exact this)]
    exact h
  have hjl := (List.getElem?_eq_some_iff.1 hj).1
  unfold deskCells
  rw [List.getElem?_toArray]
  rw [List.append_assoc, List.append_assoc, List.getElem?_append_right (by simp)]
  rw [show 2 + j - [Value.int .i64 m, v].length = j by simp, List.getElem?_append_left hjl]
  exact hj
theorem infoP2 : (Try.prog.info? 2).map (fun i => (i.zero, i.size, i.bytes)) = some (some (.int .i64 0), 1, 8) := by kernel_rfl
def partOf (all : Int) (x : Fr) : Int := wrap64 (wrap64 (all.tdiv x.2) * x.1)
theorem allOf_take (own : List Fr) (k : Nat) (h : k < own.length) : allOf (own.take (k + 1)) = wrap64 (wrap64 ((allOf (own.take k)).tdiv (com (allOf (own.take k)) (frAt own k).2)) * (frAt own k).2) := by
  unfold allOf frAt
  rw [List.take_add_one, List.foldl_append, List.getElem?_eq_getElem h]; rfl
theorem part_take (own : List Fr) (all : Int) (k : Nat) (h : k < own.length) : (own.take (k + 1)).map (partOf all) = (own.take k).map (partOf all) ++ [partOf all (frAt own k)] := by
  unfold frAt; rw [List.take_add_one, List.map_append, List.getElem?_eq_getElem h]; rfl
theorem chances_eq (m : Market) (d : DeskS) : chancesOf m d = (ownOf m d).map (partOf (allOf (ownOf m d))) := rfl

set_option maxHeartbeats 1000000 in
set_option maxRecDepth 100000 in
theorem chances_any (b mb : Nat) (v : Value) (m : Market) (R n : Nat) (d : DeskS) (w : World) (hd : DeskRow w b mb v m.runners d) (hR : m.runners = R) (h1 : 1 ≤ R) (h5 : R ≤ 5) (hok : DeskOK d R n) :
    Calls Try.prog 69 #[.pointer (some ⟨b, 0, none⟩)] w fun e w' => ∃ u, e = .returned u ∧ w'.ownsRow w.heap.size 2 1 u (chancesOf m d).length ((chancesOf m d).map (.int .i64)) ∧ Pure w w' := by
  obtain ⟨i0, hi, hz0, hz1, hz2⟩ := info_parts info23
  have e0 := hd.runners
  rw [hR] at e0
  have hP1 : Pure w (w.alloc (.cells #[.int .i64 1, .int .i64 1] 23)) := (Only.refl _ w).alloc _
  have e1 := (hd.pure hP1).runners
  rw [hR] at e1
  have HD := Lib.hid hd; have HRR := Lib.hid hR; have HOK := Lib.hid hok
  have K3 := Lib.hid (World.alloc_heap_new w (.cells #[.int .i64 1, .int .i64 1] 23))
  clear hd hR hok hP1
  go_enter Try.func69, Try.ntmps69
  go_wp2_with (at_make; refine wpList_make_full _ rfl _ _ 124 rfl (w.heap.size + 1) 23 i0 (.agg #[.int .i64 0, .int .i64 0]) 2 Try.underlying124 hi hz0 hz1 .i64 .i64 _ _ R rfl rfl rfl rfl (by rw [hz2]; omega) (by unfold maxLen; omega) (by simp) ?_; intro w2 hown hg)
  have hlen : (d.lo.take R).length = R := by rw [List.length_take, HOK.out.l5]; omega
  have hfl : ((d.lo.take R).flatMap pairC).length = R * 2 := by rw [flat_length pairC 2 _ (fun _ _ => rfl), hlen]
  have hP2 : Pure w w2 := ((Only.refl (fun _ => False) w).alloc _).trans (pure_of_grown hg)
  have hd2 := HD.out.pure hP2
  have K32 := Lib.hid ((pure_of_grown hg).heap K3.out (fun f => f))
  have hfull := owns_full2 hown
  have hms : (madeCells (Value.agg #[.int .i64 0, .int .i64 0]).cells (R * 2)).size = R * 2 := size_madeCells _ _
  rw [Array.toArray_toList, World.size_alloc] at hfull
  generalize madeCells (Value.agg #[.int .i64 0, .int .i64 0]).cells (R * 2) = mc at hfull hms
  obtain ⟨B, hB⟩ : ∃ B, B = w.heap.size + 1 := ⟨_, rfl⟩
  rw [← hB] at hfull ⊢
  have hsz : (Try.prog.info? 23).map (·.size) = some 2 := by rw [hi]; simp [hz1]
  have hfd : w2.drew.heap[B]? = some (.cells mc 23 (0, 0)) := hfull
  have hcp := fun ty => run_copy_rows (P := Try.prog) w2.drew 124 124 ty 23 2 B R R ⟨b, 2, none⟩ R 5 mc 23 _ Try.underlying124 hsz hfd (by rw [hfl]; simp) (fun j u h => desk_src hd2 R h5 j u h) (by rw [hfl, hms]; exact Nat.le_refl _) (by intro u hu; obtain ⟨x, _, hx⟩ := List.mem_flatMap.1 hu; simp [pairC] at hx; rcases hx with rfl | rfl <;> rfl)
  have hdr : mc.toList.drop ((d.lo.take R).flatMap pairC).length = [] := List.drop_of_length_le (by rw [hfl]; simp [hms])
  rw [hdr, List.append_nil] at hcp
  have hrow : FrRow (w2.drew.setRow B ((d.lo.take R).flatMap pairC).toArray) B (d.lo.take R) := setRow_heap _ _ _ _ _ _ hfd
  have hOr : Only (fun k => k = B) w2 (w2.drew.setRow B ((d.lo.take R).flatMap pairC).toArray) := ⟨rfl, rfl, rfl, by simp [World.setRow], fun k hk hn => by rw [setRow_other _ _ _ _ hn]; rfl⟩
  have hsl := fun W => lim_slice b 2 R h5 W
  obtain ⟨G, hG⟩ : ∃ G : World → Prop, ∀ x, G x ↔ Only (fun k => k = B) w2 x := ⟨_, fun _ => Iff.rfl⟩
  have hbl : b < w.heap.size := lt_of_block HD.out.row
  have gR : ∀ g' : InG G, g'.world.cell? ⟨b, 0, none⟩ = some (.int .i64 (R : Int)) := fun g' => by
    have h := ((hG _).1 g'.holds).cell hd2.runners (fun e => by have e' : b = B := e; omega)
    rw [HRR.out] at h; exact h
  haveI hInh : Inhabited (InG G) := ⟨⟨w2, (hG w2).2 (Only.refl _ _)⟩⟩
  have MKG := Lib.hid (fun x (h : Only (fun k => k = B) w2 x) => (hG x).2 h)
  have HROW := Lib.hid hrow; have HOR := Lib.hid hOr; have HP2 := Lib.hid hP2; have HB := Lib.hid hB; have HD2 := Lib.hid hd2; have HLEN := Lib.hid hlen
  clear hown hg hfull hms hfd hdr hrow hOr hP2 hB hd2 hlen hfl hsz hG e0 e1
  refine any_start G (by kernel_rfl) ?_
  refine any_take [0, 1, 2, 3, 4, 5, 6, 7, 8, 9] (by kernel_rfl) (MKG.out _ (Only.refl _ _).drew) (fun d _ _ _ _ h => by cases d <;> exact h) 1 (by kernel_rfl) ?_
  simp only [picks, List.drop_succ_cons, List.drop_zero, List.take_succ_cons, List.take_zero, List.cons_append, List.nil_append]
  repeat (go_big_quiet_step (fail))
  refine wpQuiet_nil ?_
  refine any_force (i := 10) (by kernel_rfl) rfl ?_
  go_wp2_with fail
  refine ⟨MKG.out _ HOR.out, any_done (by kernel_rfl) ?_⟩
  obtain ⟨wA, hwA⟩ : ∃ x, x = w2.drew.setRow B ((d.lo.take R).flatMap pairC).toArray := ⟨_, rfl⟩
  rw [← hwA] at HROW HOR ⊢
  clear hwA hcp gR hInh MKG
  go_upto_block 0 with (fail)
  go_cut [5, 6, 8, 9] from 36 to 84 (fun _ _ _ _ wx => ∃ own : List Fr, Hid (FrRow wx B own) ∧ Hid (own = ownOf m d) ∧ own.length = R ∧ Hid (∀ i, i < R → Den (200 ^ 5) (frAt own i).2) ∧ Hid (Only (fun k => k = B) w2 wx))
  case first =>
    go_wp2_with fail
    go_loopw [36] (fun i wr => ∃ (r : Nat) (own : List Fr), r ≤ R ∧ i = .int .i64 r ∧ Hid (FrRow wr B own) ∧ own.length = R ∧ Hid (∀ i, i < R → Den 200 (frAt own i).2) ∧ Hid (ownOf m d = chFrom d (6 - r) r own) ∧ Hid (Only (fun k => k = B) w2 wr)) (fun i _ => R - (intOf i).toNat)
    case atStart => exact ⟨0, d.lo.take R, Nat.zero_le _, rfl, HROW, HLEN.out, Lib.hid (fun i hi => by
      have h := HOK.out.lo i hi
      have e : frAt (d.lo.take R) i = frAt d.lo i := by unfold frAt; rw [List.getElem?_take_of_lt hi]
      rw [e]; exact h), Lib.hid (by unfold ownOf; rw [HRR.out, Int.toNat_natCast]), HOR⟩
    case round =>
      obtain ⟨r, own, hr, rfl, hrow, hol, hden, hch, hO⟩ := hrel
      by_cases hlt : r < R
      · have hrl : r < own.length := by rw [hol]; exact hlt
        obtain ⟨y0, y1⟩ := hrow.out.at_ r hrl
        have yf := hrow.out.frozen
        obtain ⟨hs1, hO1⟩ := hrow.out.set r hrl (0, 1)
        have hd1 := set_den (x := (0, 1)) (fun i hi => hden.out i (by rw [← hol]; exact hi)) r hrl one_den
        obtain ⟨w5, hw5⟩ : ∃ x, x = (wr.setCell ⟨B, r * 2, none⟩ (.int .i64 0)).setCell ⟨B, r * 2 + 1, none⟩ (.int .i64 1) := ⟨_, rfl⟩
        dsimp only at hs1 hO1
        rw [← hw5] at hs1 hO1
        have hz5 : w5.heap.size = wr.heap.size := by rw [hw5]; simp
        obtain ⟨w6, hw6⟩ : ∃ x, x = w5.alloc (.cells #[.int .i64 0, .int .i64 1] 23) := ⟨_, rfl⟩
        have P6 : Pure w5 w6 := by rw [hw6]; exact (Only.refl _ w5).alloc _
        have r6 : w6.heap[wr.heap.size]? = some (.cells #[.int .i64 0, .int .i64 1] 23) := by rw [hw6, ← hz5]; exact World.alloc_heap_new w5 _
        have HS1 := Lib.hid (hs1.keep P6 (fun f => f)); have HO1 := Lib.hid ((hO.out.trans hO1).trans (P6.mono (fun _ _ f => f.elim))); have HD1 := Lib.hid hd1; have HW5 := Lib.hid hw5; have HW6 := Lib.hid hw6; have R6 := Lib.hid r6
        clear hs1 hO1 hd1 hw5 hw6 P6 r6 hz5
        go_wp2_with fail
        rw [← HW5.out, ← HW6.out]
        obtain ⟨own1, ho1⟩ : ∃ l, own.set r (0, 1) = l := ⟨_, rfl⟩
        rw [ho1] at HS1 HD1
        have hl1 : own1.length = R := by rw [← ho1]; simp [hol]
        rw [hl1] at HD1
        obtain ⟨b6, hb6⟩ : ∃ x, x = wr.heap.size := ⟨_, rfl⟩
        rw [← hb6] at R6 ⊢
        have hB6 : b6 ≠ B := fun e => by
          have h1 := lt_of_block hrow.out
          omega
        have HB6 := Lib.hid hb6; have HO1' := Lib.hid ho1
        have hmul := total_mul (l := own1) (R := R) h5 (fun i hi => HD1.out i hi)
        have HMUL := Lib.hid hmul
        clear hb6 ho1 hmul y0 y1 yf
        go_loopw [46] (fun i ws => ∃ q : Nat, q ≤ R ∧ i = .int .i64 q ∧ Hid (ws.heap[b6]? = some (.cells #[.int .i64 (totalTo own1 q).1, .int .i64 (totalTo own1 q).2] 23)) ∧ Hid (Only (fun k => k = b6) w6 ws)) (fun i _ => R - (intOf i).toNat)
        case atStart => exact ⟨0, Nat.zero_le _, rfl, R6, Lib.hid (Only.refl _ _)⟩
        case round =>
          obtain ⟨q, hq, rfl, hrowq, hOq⟩ := hrel
          by_cases hltq : q < R
          · obtain ⟨y0, y1⟩ := (HS1.out.keep hOq.out (fun e => hB6 e.symm)).at_ q (by rw [hl1]; exact hltq)
            have hs := totalTo_succ own1 q
            have hmul := HMUL.out q hltq
            obtain ⟨u, hu⟩ : ∃ u, frAt own1 q = u := ⟨_, rfl⟩
            obtain ⟨o, ho⟩ : ∃ o, totalTo own1 q = o := ⟨_, rfl⟩
            rw [hu] at y0 y1 hs hmul
            rw [ho] at hrowq hs hmul
            have hpl := fun W => plus_any o u W hmul
            obtain ⟨X, hX⟩ : ∃ X, plusF o u = X := ⟨_, rfl⟩
            simp only [hX] at hpl
            rw [hX] at hs
            obtain ⟨w7, hw7⟩ : ∃ x, x = wr.alloc (.cells #[.int .i64 u.1, .int .i64 u.2] 23) := ⟨_, rfl⟩
            have P7 : Pure wr w7 := by rw [hw7]; exact (Only.refl _ wr).alloc _
            have r7 : w7.heap[wr.heap.size]? = some (.cells #[.int .i64 u.1, .int .i64 u.2] 23) := by rw [hw7]; exact World.alloc_heap_new wr _
            have r5 := P7.heap hrowq.out (fun f => f)
            obtain ⟨m0, m1, _⟩ := read23 r7
            obtain ⟨n0, n1, _⟩ := read23 r5
            have HW7 := Lib.hid hw7; have HP7 := Lib.hid P7; have R5 := Lib.hid r5; have HPL := Lib.hid hpl; have HS := Lib.hid hs
            rw [hw7] at m0 m1 n0 n1
            clear hw7 P7 r7 r5 hpl hs hmul hX hu ho
            go_wp2_with fail
            refine (HPL.out _).mono ?_
            rw [← HW7.out]
            rintro e w8 ⟨rfl, P8⟩
            have r8 := P8.heap R5.out (fun f => f)
            obtain ⟨d0, d1, fr⟩ := read23 r8
            obtain ⟨s9, _, _, hO9⟩ := cell23 r8 X.1 X.2
            have HF := Lib.hid (And.intro s9 ((hOq.out.trans ((HP7.out.trans P8).mono (fun _ _ f => f.elim))).trans hO9))
            clear P8 r8 s9 hO9 m0 m1 n0 n1 y0 y1
            go_wp2_with fail
            go_roundw
            case rel => exact ⟨q + 1, by omega, by go_num, Lib.hid (by rw [HS.out]; exact HF.out.1), Lib.hid HF.out.2⟩
            case measure => simp [intOf]; omega
          · obtain rfl : R = q := by omega
            have hoth : othersF own1 = totalTo own1 R := by unfold othersF; rw [hl1]
            have hod := others_den (own := own1) (by omega) (fun i hi => HD1.out i (by omega))
            rw [hoth] at hod
            obtain ⟨o, ho⟩ : ∃ o, totalTo own1 R = o := ⟨_, rfl⟩
            rw [ho] at hod hoth hrowq
            obtain ⟨N, hN⟩ : ∃ N, wrap64 (-o.1) = N := ⟨_, rfl⟩
            have hlm := left_mul hod
            rw [hN] at hlm
            have hpl := fun W => plus_any (1, 1) (N, o.2) W hlm
            obtain ⟨X, hX⟩ : ∃ X, plusF (1, 1) (N, o.2) = X := ⟨_, rfl⟩
            simp only [hX] at hpl
            have hk3 := hOq.out.heap (HO1.out.heap K32.out (fun e => by have := HB.out; omega)) (fun e => by have h1 := lt_of_block HROW.out; have := HB.out; have := HB6.out; have h2 := lt_of_block hrow.out; omega)
            obtain ⟨t0, t1, _⟩ := read23 hk3
            obtain ⟨n0, n1, _⟩ := read23 hrowq.out
            have HPL := Lib.hid hpl; have HOT := Lib.hid (And.intro hoth (And.intro hN hX))
            clear hpl hlm hk3 hoth hX ho
            have hbB : b < B := by have := HB.out; omega
            have hB6' : B < b6 := by have h2 := lt_of_block hrow.out; have := HB6.out; omega
            have hdw := (HD2.out.keep HO1.out (fun e => by omega)).keep hOq.out (fun e => by omega)
            have HDW := Lib.hid hdw
            clear hdw
            go_wp2_with fail
            refine (HPL.out _).mono ?_
            rintro e w8 ⟨rfl, P8⟩
            obtain ⟨w9, hw9⟩ : ∃ x, x = w8.alloc (.cells #[.int .i64 X.1, .int .i64 X.2] 23) := ⟨_, rfl⟩
            have P9 : Pure wr w9 := P8.trans (by rw [hw9]; exact (Only.refl _ w8).alloc _)
            have r9 : w9.heap[w8.heap.size]? = some (.cells #[.int .i64 X.1, .int .i64 X.2] 23) := by rw [hw9]; exact World.alloc_heap_new w8 _
            have HW9 := Lib.hid hw9; have HP9 := Lib.hid P9; have R9 := Lib.hid r9; have HDW9 := Lib.hid (HDW.out.pure P9)
            have hr5 : r < 5 := by omega
            obtain ⟨G, hG⟩ : ∃ G : World → Prop, ∀ y, G y ↔ Pure w9 y := ⟨_, fun _ => Iff.rfl⟩
            have gh0 : ∀ g' : InG G, g'.world.cell? ⟨b, 12 + r * 2, none⟩ = some (.int .i64 (frAt d.hi r).1) := fun g' => ((HDW9.out.pure ((hG _).1 g'.holds)).hi r hr5).1
            have gh1 : ∀ g' : InG G, g'.world.cell? ⟨b, 12 + r * 2 + 1, none⟩ = some (.int .i64 (frAt d.hi r).2) := fun g' => ((HDW9.out.pure ((hG _).1 g'.holds)).hi r hr5).2
            have gx0 : ∀ g' : InG G, g'.world.cell? ⟨w8.heap.size, 0, none⟩ = some (.int .i64 X.1) := fun g' => (read23 (((hG _).1 g'.holds).heap R9.out (fun f => f))).1
            have gx1 : ∀ g' : InG G, g'.world.cell? ⟨w8.heap.size, 1, none⟩ = some (.int .i64 X.2) := fun g' => (read23 (((hG _).1 g'.holds).heap R9.out (fun f => f))).2.1
            haveI hInh : Inhabited (InG G) := ⟨⟨w9, (hG w9).2 (Only.refl _ _)⟩⟩
            have MKG := Lib.hid (fun y (h : Pure w9 y) => (hG y).2 h)
            have hle := fun W => less_any (frAt d.hi r) X W
            obtain ⟨Z, hZ⟩ : ∃ Z, lessB (frAt d.hi r) X = Z := ⟨_, rfl⟩
            simp only [hZ] at hle
            have HLE := Lib.hid hle; have HZ := Lib.hid hZ
            clear hG hle hZ hw9 P8 P9 r9 t0 t1 n0 n1
            go_wp2_with fail
            rw [← HW9.out]
            refine any_start G (by kernel_rfl) ?_
            refine any_take [0, 1, 2, 3, 4, 5, 6] (by kernel_rfl) (MKG.out _ (Only.refl _ _).drew) (fun d _ _ _ _ h => by cases d <;> exact h) 2 (by kernel_rfl) ?_
            simp only [picks, List.drop_succ_cons, List.drop_zero, List.take_succ_cons, List.take_zero, List.cons_append, List.nil_append]
            repeat (go_big_quiet_step (fail))
            refine wpQuiet_nil ?_
            refine any_force (i := 7) (by kernel_rfl) rfl ?_
            clear gh0 gh1 gx0 gx1
            go_wp2_with fail
            refine (HLE.out _).mono ?_
            rintro e w10 ⟨rfl, P10⟩
            have Q10 := Lib.hid ((Only.refl (fun _ => False) w9).drew.trans P10)
            clear P10
            go_wp2_with fail
            refine ⟨MKG.out _ Q10.out, ?_⟩
            refine any_take [8] (by kernel_rfl) (MKG.out _ Q10.out) (fun d _ _ _ _ h => by cases d <;> exact h) 0 (by kernel_rfl) ?_
            simp only [picks, List.drop_succ_cons, List.drop_zero, List.take_succ_cons, List.take_zero, List.cons_append, List.nil_append]
            repeat (go_big_quiet_step (fail))
            refine wpQuiet_nil ?_
            refine any_done (by kernel_rfl) ?_
            have hF10 := ((HS1.out.keep hOq.out (fun e => hB6 e.symm)).keep HP9.out (fun f => f)).keep Q10.out (fun f => f)
            have hO10 : Only (fun k => k = B) w2 w10 := ((HO1.out.trans' hOq.out (fun i hi e => by have := HB6.out; have := hO.out.size; omega)).trans (HP9.out.mono (fun _ _ f => f.elim))).trans (Q10.out.mono (fun _ _ f => f.elim))
            have hst := chStep_eq (d := d) (own := own) (r := r) (o := o) (X := X) (by rw [HO1'.out]; exact HOT.out.1) (by rw [HOT.out.2.1]; exact HOT.out.2.2)
            rw [HZ.out, HO1'.out] at hst
            have hr1 : r < own1.length := by omega
            obtain ⟨f, hf⟩ : ∃ f, 6 - r = f + 1 := ⟨5 - r, by omega⟩
            obtain ⟨y0, y1⟩ := hF10.at_ r hr1
            have yf := hF10.frozen
            cases Z
            · have hs := hF10.set r hr1 X
              have hfin : ownOf m d = own1.set r X := by
                rw [hch.out, hf, ch_stop hrl (by rw [hst]; rfl), hst]; rfl
              have hx9 := Q10.out.heap R9.out (fun f => f)
              obtain ⟨x0, x1, _⟩ := read23 hx9
              have hden2 := (chStep_den (d := d) (by omega : own.length ≤ 5) (fun i hi => hden.out i (by omega)) hrl (HOK.out.hi r hlt)).2.1
              rw [hst] at hden2
              have HSX := Lib.hid hs; have HFIN := Lib.hid hfin; have HDE := Lib.hid hden2; have HO10 := Lib.hid hO10
              clear hs hfin hx9 hden2 hO10 hF10 hst
              go_wp2_with fail
              go_meet
              exact ⟨own1.set r X, Lib.hid HSX.out.1, Lib.hid HFIN.out.symm, by simp [hl1], Lib.hid (fun i hi => HDE.out i (by omega)), Lib.hid (HO10.out.trans HSX.out.2)⟩
            · have hs := hF10.set r hr1 (frAt d.hi r)
              have hfin : ownOf m d = chFrom d (6 - (r + 1)) (r + 1) (own1.set r (frAt d.hi r)) := by
                rw [hch.out, hf, ch_go hrl (by rw [hst]; rfl), hst, show 6 - (r + 1) = f by omega]; rfl
              have hh10 := (HDW9.out.pure Q10.out).hi r hr5
              obtain ⟨x0, x1⟩ := hh10
              have hden2 := (chStep_den (d := d) (by omega : own.length ≤ 5) (fun i hi => hden.out i (by omega)) hrl (HOK.out.hi r hlt)).2.2 (by rw [hst]; rfl)
              rw [hst] at hden2
              have HSX := Lib.hid hs; have HFIN := Lib.hid hfin; have HDE := Lib.hid hden2; have HO10 := Lib.hid hO10
              clear hs hfin hden2 hO10 hF10 hst
              go_wp2_with fail
              go_roundw
              case rel => exact ⟨r + 1, own1.set r (frAt d.hi r), by omega, by go_num, Lib.hid HSX.out.1, by simp [hl1], Lib.hid (fun i hi => HDE.out i (by omega)), HFIN, Lib.hid (HO10.out.trans HSX.out.2)⟩
              case measure => simp [intOf]; omega
      · obtain rfl : R = r := by omega
        have hfin : ownOf m d = own := by rw [hch.out, ch_end (by omega)]
        have HFIN := Lib.hid hfin
        clear hfin
        go_wp2_with fail
        go_meet
        exact ⟨own, hrow, Lib.hid HFIN.out.symm, hol, Lib.hid (fun i hi => Den.mono (hden.out i hi) (by decide)), hO⟩
  case rest =>
    obtain ⟨own, hrow, hown, hol, hden, hO⟩ := hcut
    obtain ⟨w3, rfl⟩ : ∃ x : World, x = wc := ⟨_, rfl⟩
    have HP3 := Lib.hid (HP2.out.trans' hO.out (fun i hi e => by have := HB.out; omega))
    have HBW := Lib.hid (show w.heap.size ≤ w3.heap.size from HP3.out.size)
    clear hO HOR HROW K3 K32 HP2 HD2 HLEN HD
    go_wp2_with fail
    go_loopw [10, 87] (fun al i wr => ∃ k : Nat, k ≤ R ∧ al = .int .i64 (allOf (own.take k)) ∧ i = .int .i64 k ∧ Hid (Pure w3 wr)) (fun _ i _ => R - (intOf i).toNat)
    case atStart => exact ⟨0, Nat.zero_le _, by simp [allOf], rfl, Lib.hid (Only.refl _ _)⟩
    case round =>
      obtain ⟨k, hk, rfl, rfl, hP⟩ := hrel
      by_cases hlt : k < R
      · have hkl : k < own.length := by omega
        obtain ⟨y0, y1⟩ := (hrow.out.keep hP.out (fun f => f)).at_ k hkl
        have hst := allOf_take own k hkl
        have hd := hden.out k hlt
        obtain ⟨⟨xn, xd⟩, hx⟩ : ∃ u, frAt own k = u := ⟨_, rfl⟩
        rw [hx] at y0 y1 hst hd
        obtain ⟨hd0, _⟩ := hd
        dsimp only at y0 y1 hst hd0
        obtain ⟨a, ha⟩ : ∃ a, allOf (own.take k) = a := ⟨_, rfl⟩
        rw [ha] at hst
        have hcom := fun W => com_any a xd W
        have hc0 := com_ne (a := a) hd0
        obtain ⟨g, hg⟩ : ∃ g, com a xd = g := ⟨_, rfl⟩
        simp only [hg] at hcom
        rw [hg] at hst hc0
        obtain ⟨Q1, hQ1⟩ : ∃ y, wrap64 (a.tdiv g) = y := ⟨_, rfl⟩
        obtain ⟨Q2, hQ2⟩ : ∃ y, wrap64 (Q1 * xd) = y := ⟨_, rfl⟩
        rw [hQ1, hQ2] at hst
        rw [ha]
        obtain ⟨w7, hw7⟩ : ∃ x, x = wr.alloc (.cells #[.int .i64 xn, .int .i64 xd] 23) := ⟨_, rfl⟩
        have P7 : Pure wr w7 := by rw [hw7]; exact (Only.refl _ wr).alloc _
        have r7 : w7.heap[wr.heap.size]? = some (.cells #[.int .i64 xn, .int .i64 xd] 23) := by rw [hw7]; exact World.alloc_heap_new wr _
        have g1 : ∀ g', (grow w7 g').cell? ⟨wr.heap.size, 1, none⟩ = some (.int .i64 xd) := fun g' => cell_of_row _ _ 1 _ _ _ ((grow_pure w7 g').heap r7 (fun f => f))
        have HW7 := Lib.hid hw7; have HP7 := Lib.hid (hP.out.trans P7); have HCOM := Lib.hid hcom; have HST := Lib.hid hst
        clear hw7 P7 r7 hcom hst hx ha hg hkl
        go_wp2_with fail
        rw [← HW7.out]
        refine mixed_start (by kernel_rfl) ?_
        refine mixed_take [0, 1, 2, 3, 6, 7] (by kernel_rfl) (Only.refl _ _).drew (fun d _ _ _ _ h => by cases d <;> exact h) 4 (by kernel_rfl) ?_
        simp only [picks, List.drop_succ_cons, List.drop_zero, List.take_succ_cons, List.take_zero, List.cons_append, List.nil_append]
        repeat (go_big_quiet_step (fail))
        refine wpQuiet_nil ?_
        refine mixed_force (i := 4) (by kernel_rfl) rfl ?_
        clear g1
        go_wp2_with fail
        refine (HCOM.out _).mono ?_
        rintro e w8 ⟨rfl, P8⟩
        have Q8 := Lib.hid ((Only.refl (fun _ => False) w7).drew.trans P8)
        clear P8
        go_wp2_with fail
        refine ⟨Q8.out, ?_⟩
        refine mixed_take [5, 8, 9] (by kernel_rfl) Q8.out (fun d _ _ _ _ h => by cases d <;> exact h) 0 (by kernel_rfl) ?_
        simp only [picks, List.drop_succ_cons, List.drop_zero, List.take_succ_cons, List.take_zero, List.cons_append, List.nil_append]
        repeat (go_big_quiet_step (fail))
        refine wpQuiet_nil ?_
        refine wpAnyG_done (by kernel_rfl) ?_
        go_wp2_with fail
        go_roundw
        case rel => exact ⟨k + 1, by omega, by rw [HST.out]; first | rfl | rw [hQ2], by go_num, Lib.hid (HP7.out.trans Q8.out)⟩
        case measure => simp [intOf]; omega
      · obtain rfl : R = k := by omega
        have hall : allOf (own.take R) = allOf own := by rw [List.take_of_length_le (by omega)]
        rw [hall]
        obtain ⟨all, hal⟩ : ∃ a, allOf own = a := ⟨_, rfl⟩
        rw [hal]
        obtain ⟨j0, hj, hjz, hj1, hj2⟩ := info_parts infoP2
        have HAL := Lib.hid hal
        obtain ⟨w4, rfl⟩ : ∃ y, y = wr := ⟨_, rfl⟩
        have HR4 := Lib.hid (hrow.out.keep hP.out (fun f => f))
        have HP4 := Lib.hid (HP3.out.trans hP.out)
        have HBW4 := Lib.hid (show w.heap.size ≤ w4.heap.size from HP4.out.size)
        clear hall hal hP
        go_wp2_with fail
        go_loopw [13, 103] (fun al i wr => ∃ (k : Nat) (ao : Option Addr) (ac : Nat), k ≤ R ∧ i = .int .i64 k ∧ al = .slice ao k ac ∧ Hid (wr.ownsRow w4.heap.size 2 1 (.slice ao k ac) k (((own.take k).map (partOf all)).map (.int .i64))) ∧ Hid (Pure w4 wr)) (fun _ i _ => R - (intOf i).toNat)
        case atStart => exact ⟨0, none, 0, Nat.zero_le _, rfl, rfl, Lib.hid (World.ownsRow_nil _ _ _ _), Lib.hid (Only.refl _ _)⟩
        case round =>
          obtain ⟨k, ao, ac, hk, rfl, rfl, hrow4, hP⟩ := hrel
          by_cases hlt : k < R
          · have hkl : k < own.length := by omega
            obtain ⟨y0, y1⟩ := (HR4.out.keep hP.out (fun f => f)).at_ k hkl
            have hst := part_take own all k hkl
            have hd := hden.out k hlt
            obtain ⟨⟨xn, xd⟩, hx⟩ : ∃ u, frAt own k = u := ⟨_, rfl⟩
            rw [hx] at y0 y1 hst hd
            obtain ⟨hd0, _⟩ := hd
            dsimp only at y0 y1 hst hd0
            obtain ⟨Q1, hQ1⟩ : ∃ y, wrap64 (all.tdiv xd) = y := ⟨_, rfl⟩
            obtain ⟨Q2, hQ2⟩ : ∃ y, wrap64 (Q1 * xn) = y := ⟨_, rfl⟩
            have hpo : partOf all (xn, xd) = Q2 := by unfold partOf; dsimp only; rw [hQ1, hQ2]
            rw [hpo] at hst
            clear hpo
            obtain ⟨w7, hw7⟩ : ∃ x, x = wr.alloc (.cells #[.int .i64 xn, .int .i64 xd] 23) := ⟨_, rfl⟩
            have P7 : Pure wr w7 := by rw [hw7]; exact (Only.refl _ wr).alloc _
            have r7 : w7.heap[wr.heap.size]? = some (.cells #[.int .i64 xn, .int .i64 xd] 23) := by rw [hw7]; exact World.alloc_heap_new wr _
            have hlt' := owns_lt hrow4.out
            have hz7 : w4.heap.size ≤ w7.heap.size := (hP.out.trans P7).size
            obtain ⟨G, hG⟩ : ∃ G : World → Prop, ∀ y, G y ↔ Only (fun q => (Value.slice ao k ac).ownBlock = some q) w7 y := ⟨_, fun _ => Iff.rfl⟩
            have gx0 : ∀ g' : InG G, g'.world.cell? ⟨wr.heap.size, 0, none⟩ = some (.int .i64 xn) := fun g' => cell_of_row _ _ 0 _ _ _ (((hG _).1 g'.holds).heap r7 (fun e => by have := (hlt' _ e).2; omega))
            have gx1 : ∀ g' : InG G, g'.world.cell? ⟨wr.heap.size, 1, none⟩ = some (.int .i64 xd) := fun g' => cell_of_row _ _ 1 _ _ _ (((hG _).1 g'.holds).heap r7 (fun e => by have := (hlt' _ e).2; omega))
            haveI hInh : Inhabited (InG G) := ⟨⟨w7, (hG w7).2 (Only.refl _ _)⟩⟩
            have MKG := Lib.hid (fun y (h : Only (fun q => (Value.slice ao k ac).ownBlock = some q) w7 y) => (hG y).2 h)
            have HR7 := Lib.hid (owns_pure hrow4.out P7); have HW7 := Lib.hid hw7; have HPW7 := Lib.hid (hP.out.trans P7); have HST := Lib.hid hst; have HLT := Lib.hid hlt'
            clear hw7 P7 r7 hst hx hlt' hG hP hrow4
            go_wp2_with fail
            rw [← HW7.out]
            refine any_start G (by kernel_rfl) ?_
            refine any_take [0, 1, 2, 3, 4, 5, 6, 7] (by kernel_rfl) (MKG.out _ (Only.refl _ _).drew) (fun d _ _ _ _ h => by cases d <;> exact h) 3 (by kernel_rfl) ?_
            simp only [picks, List.drop_succ_cons, List.drop_zero, List.take_succ_cons, List.take_zero, List.cons_append, List.nil_append]
            repeat (go_big_quiet_step (fail))
            refine wpQuiet_nil ?_
            refine any_force (i := 8) (by kernel_rfl) rfl ?_
            clear gx0 gx1
            go_wp2_with fail
            refine ⟨MKG.out _ ((Only.refl _ _).drew.alloc _), ?_⟩
            refine any_forceP 9 (by kernel_rfl) ?_
            simp only [picks, List.drop_succ_cons, List.drop_zero, List.take_succ_cons, List.take_zero, List.cons_append, List.nil_append]
            go_wp2_with (at_builtin; go_loud (refine wpList_append_own_at _ rfl _ _ 30 rfl w4.heap.size 2 j0 (.int .i64 0) 1 8 Try.underlying30 hj hjz hj1 hj2 rfl (by decide) _ _ _ rfl (owns_pure HR7.out ((Only.refl _ w7).drew.alloc _)) ⟨w7.heap.size, 0, none⟩ 1 1 [.int .i64 Q2] rfl rfl ?c1 ?c2 ?c3 ?c4 ?c5 ?c6))
            case c1 => exact cell_one_new _ _ _
            case c2 => intro u hu; simp at hu; subst hu; rfl
            case c3 => unfold maxLen; omega
            case c4 => omega
            case c5 => simp; omega
            intro v' w8 hown8 hg8 _ hor
            have hO8 : Only (fun q => (Value.slice ao k ac).ownBlock = some q) w7 w8 := ((Only.refl _ w7).alloc _).drew.grown hg8 (fun q e => .inl e)
            obtain ⟨ao', ac', rfl, hle', _, hn', _⟩ := owns_form hown8
            have HR := Lib.hid (show w8.ownsRow w4.heap.size 2 1 (.slice ao' (k + 1) ac') (k + 1) (((own.take (k + 1)).map (partOf all)).map (.int .i64)) from by rw [HST.out, List.map_append]; simpa using hown8)
            have HG8 := Lib.hid (MKG.out _ hO8)
            have HP8 := Lib.hid (show Pure w4 w8 from HPW7.out.trans' hO8 (fun q hq e => by have := (HLT.out q e).1; omega))
            clear hown8 hg8 hor hO8
            go_wp2_with fail
            refine ⟨HG8.out, ?_⟩
            refine any_take [10] (by kernel_rfl) HG8.out (fun d _ _ _ _ h => by cases d <;> exact h) 0 (by kernel_rfl) ?_
            simp only [picks, List.drop_succ_cons, List.drop_zero, List.take_succ_cons, List.take_zero, List.cons_append, List.nil_append]
            repeat (go_big_quiet_step (fail))
            refine wpQuiet_nil ?_
            refine any_done (by kernel_rfl) ?_
            go_wp2_with fail
            go_roundw
            case rel => exact ⟨k + 1, ao', ac', by omega, by go_num, rfl, HR, HP8⟩
            case measure => simp [intOf]; omega
          · obtain rfl : R = k := by omega
            have hall : (own.take R).map (partOf all) = chancesOf m d := by rw [List.take_of_length_le (by omega), chances_eq, ← hown.out, HAL.out]
            rw [hall] at hrow4
            have hln : (chancesOf m d).length = R := by rw [← hall]; simp [hol]
            have hI : wr.ownsRow w.heap.size 2 1 (.slice ao R ac) (chancesOf m d).length ((chancesOf m d).map (.int .i64)) := by rw [hln]; exact owns_le hrow4.out HBW4.out
            have HI := Lib.hid hI; have HPF := Lib.hid (HP4.out.trans hP.out)
            clear hall hrow4 hln hI hP
            go_wp2_with fail
            go_ret
            exact ⟨_, rfl, HI.out, HPF.out⟩
end Go.Proofs.Ythnjfekkngpbjaa

/- sure. -/
namespace Go.Proofs.Ythnjfekkngpbjaa
open Go.RowKit Go.Shelf

theorem infoI3 : (Try.prog.info? 3).map (fun i => (i.zero, i.size, i.bytes)) = some (some (.int .i64 0), 1, 8) := by kernel_rfl
/-- What sure hands back. -/
def SureTo (w : World) (mb : Nat) (m : Market) (d : DeskS) (e : Ending) (w' : World) : Prop :=
  ∃ v, e = .returned (.tuple #[v, .bool (sureOf m d).2]) ∧ Ints (fun k => w.heap.size ≤ k) w' v (sureOf m d).1 ∧ Only (fun k => k = mb) w w'

/-- The map while the other side's entries are struck. -/
def Sweep (d : DeskS) (lay : Bool) (mb rb : Nat) (w0 wr : World) : Prop :=
  ∃ (left : Side → Prop) (m : Nat) (f : Side → Option Value), RangeF sideV wr mb rb f left m ∧ (∀ s, (¬ left s ∧ s.2 ≠ lay → f s = none) ∧ (¬ (¬ left s ∧ s.2 ≠ lay) → f s = (d.by_ s).map (Value.int .i64))) ∧ Only (fun k => k = mb) w0 wr
theorem sweepS_stay {d : DeskS} {lay : Bool} {mb rb : Nat} {w0 wr w4 w5 : World} {f : Side → Option Value} {left : Side → Prop} {m4 : Nat} {x : Side} (hrb : w0.heap.size ≤ rb) (hP : Only (fun k => k = mb) w0 wr) (hO : Only (fun k => k = rb) wr w4) (hP5 : Pure w4 w5)
    (hR : RangeF sideV w4 mb rb f (fun y => left y ∧ y ≠ x) m4) (hf : ∀ s, (¬ left s ∧ s.2 ≠ lay → f s = none) ∧ (¬ (¬ left s ∧ s.2 ≠ lay) → f s = (d.by_ s).map (Value.int .i64))) (hx : x.2 = lay) :
    Sweep d lay mb rb w0 w5 ∧ leftCount w5 mb rb = m4 := by
  have hR5 := hR.keep hP5 (fun f => f) (fun f => f)
  refine ⟨⟨_, m4, f, hR5, fun y => ⟨fun h => ?_, fun h => ?_⟩, (hP.trans' hO (fun i hi e => by omega)).trans (hP5.mono (fun _ _ f => f.elim))⟩, hR5.count⟩
  · by_cases hy : y = x
    · subst hy; exact absurd hx h.2
    · exact (hf y).1 ⟨fun hl' => h.1 ⟨hl', hy⟩, h.2⟩
  · by_cases hy : y = x
    · subst hy; exact (hf y).2 (fun h' => h'.2 hx)
    · exact (hf y).2 (fun h' => h ⟨fun hl' => h'.1 hl'.1, h'.2⟩)
theorem sweepS_drop {d : DeskS} {lay : Bool} {mb rb : Nat} {w0 wr w4 w5 w6 : World} {f : Side → Option Value} {left left' : Side → Prop} {m5 : Nat} {x : Side} (hrb : w0.heap.size ≤ rb) (hP : Only (fun k => k = mb) w0 wr) (hO : Only (fun k => k = rb) wr w4) (hP5 : Pure w4 w5) (hO6 : Only (fun k => k = mb) w5 w6)
    (hR : RangeF sideV w6 mb rb (upd f x none) left' m5) (hl' : ∀ y, left' y ↔ left y ∧ y ≠ x) (hf : ∀ s, (¬ left s ∧ s.2 ≠ lay → f s = none) ∧ (¬ (¬ left s ∧ s.2 ≠ lay) → f s = (d.by_ s).map (Value.int .i64))) (hx : x.2 ≠ lay) :
    Sweep d lay mb rb w0 w6 ∧ leftCount w6 mb rb = m5 := by
  refine ⟨⟨_, m5, _, hR, fun y => ⟨fun h => ?_, fun h => ?_⟩, ((hP.trans' hO (fun i hi e => by omega)).trans (hP5.mono (fun _ _ f => f.elim))).trans hO6⟩, hR.count⟩
  · unfold upd
    by_cases hy : y = x
    · simp [hy]
    · simp only [hy, if_false]; exact (hf y).1 ⟨fun hl => h.1 ((hl' y).2 ⟨hl, hy⟩), h.2⟩
  · unfold upd
    by_cases hy : y = x
    · subst hy; exact absurd ⟨fun hl => ((hl' y).1 hl).2 rfl, hx⟩ h
    · simp only [hy, if_false]; exact (hf y).2 (fun h' => h ⟨fun hl => h'.1 ((hl' y).1 hl).1, h'.2⟩)

set_option maxHeartbeats 1000000 in
set_option maxRecDepth 100000 in
theorem sure_any (b mb : Nat) (v : Value) (m : Market) (R n : Nat) (d : DeskS) (w : World) (hd : DeskAt w b mb v m.runners d) (hR : m.runners = R) (h1 : 1 ≤ R) (h5 : R ≤ 5) (hok : DeskOK d R n) :
    Calls Try.prog 63 #[.pointer (some ⟨b, 0, none⟩)] w fun e w' => SureTo w mb m d e w' := by
  obtain ⟨i0, hi, hz0, hz1, hz2⟩ := info_parts infoI3
  have hbl := lt_of_block hd.row
  have hml := hd.map.lt
  obtain ⟨w1, hw1⟩ : ∃ x, x = w.alloc (.cells #[.pointer (some ⟨b, 0, none⟩)] 86) := ⟨_, rfl⟩
  have hP1 : Pure w w1 := by rw [hw1]; exact (Only.refl _ w).alloc _
  have k1 : w1.heap[w.heap.size]? = some (.cells #[.pointer (some ⟨b, 0, none⟩)] 86) := by rw [hw1]; exact World.alloc_heap_new w _
  have hd1 := hd.pure hP1
  have hs1 : w1.heap.size = w.heap.size + 1 := by rw [hw1]; simp
  have HW1 := Lib.hid hw1; have HP1 := Lib.hid hP1; have K1 := Lib.hid k1; have HD1 := Lib.hid hd1; have HOK := Lib.hid hok; have HS1 := Lib.hid hs1; have HRR := Lib.hid hR
  have e0 := hd1.runners
  rw [hR] at e0
  have e1 : w1.cell? ⟨w.heap.size, 0, none⟩ = some (.pointer (some ⟨b, 0, none⟩)) := cell_of_row _ _ 0 _ _ _ k1
  rw [hw1] at e0 e1
  clear hw1 hP1 k1 hd1 hok hs1 hd hR
  go_enter Try.func63, Try.ntmps63
  go_wp2_with fail
  rw [← HW1.out]
  go_loopw [4, 21] (fun al i wr => ∃ (k : Nat) (ao : Option Addr) (ac : Nat), k ≤ R ∧ i = .int .i64 k ∧ al = .slice ao k ac ∧ Hid (wr.ownsRow w1.heap.size 3 1 (.slice ao k ac) k ((numsTo k).map (.int .i64))) ∧ Hid (Pure w1 wr)) (fun _ i _ => R - (intOf i).toNat)
  case atStart => exact ⟨0, none, 0, Nat.zero_le _, rfl, rfl, Lib.hid (World.ownsRow_nil _ _ _ _), Lib.hid (Only.refl _ _)⟩
  case round =>
    obtain ⟨k, ao, ac, hk, rfl, rfl, hrow, hP⟩ := hrel
    by_cases hlt : k < R
    · have hgs := hP.out.size
      go_wp2_with (at_builtin; refine wpList_append_own_at _ rfl _ _ 33 rfl w1.heap.size 3 i0 (.int .i64 0) 1 8 Try.underlying33 hi hz0 hz1 hz2 rfl (by decide) _ _ _ rfl (World.ownsRow.alloc hrow.out _) ⟨wr.heap.size, 0, none⟩ 1 1 [.int .i64 (k : Int)] rfl rfl ?c1 ?c2 ?c3 ?c4 ?c5 ?c6)
      case c1 => exact cell_one_new _ _ _
      case c2 => intro u hu; simp at hu; subst hu; rfl
      case c3 => unfold maxLen; omega
      case c4 => omega
      case c5 => simp; omega
      intro v' w3 hown hg _ hor
      have hP3 : Pure w1 w3 := (hP.out.alloc _).grown hg (fun q e => .inr (owns_lt hrow.out q e).1)
      have HP3 := Lib.hid hP3
      obtain ⟨ao', ac', rfl, hle', _, hn', _⟩ := owns_form hown
      have HR := Lib.hid (show w3.ownsRow w1.heap.size 3 1 (.slice ao' (k + 1) ac') (k + 1) ((numsTo (k + 1)).map (.int .i64)) from by rw [numsTo_succ, List.map_append]; exact hown)
      clear hown hg hP3 hP hrow hor
      go_wp2_with fail
      go_roundw
      case rel => exact ⟨k + 1, ao', ac', by omega, by go_num, rfl, HR, HP3⟩
      case measure => simp [intOf]; omega
    · obtain rfl : R = k := by omega
      have hints := owns_ints (l := numsTo R) (by rw [numsTo_len]; exact hrow.out)
      have hdr := HD1.out.pure hP.out
      have hbx := hP.out.heap K1.out (fun f => f)
      have hfi := first_any 83 #[.pointer (some ⟨w.heap.size, 0, none⟩)] (crossP d) _ _ (numsTo R) (-1) wr (enters_of Try.func83 (by kernel_rfl) rfl) hints (fun W hW i hi' => by
        rw [numsTo_len] at hi'
        rw [numsTo_at R i hi']
        have h := cross_any w.heap.size b mb v m.runners d i W (by omega) (cell_of_row _ _ 0 _ _ _ (hW.heap hbx (fun f => f))) (hdr.pure hW)
        have e : crossP d (i : Int) = lessB (frAt d.hi i) (frAt d.lo i) := by unfold crossP; rw [Int.toNat_natCast]
        rw [e]; exact h)
      rw [cross_first] at hfi
      rcases hcr : crossedAt d R with _ | r
      all_goals
        rw [hcr] at hfi
        dsimp only at hfi
        have HFI := Lib.hid hfi; have HDR := Lib.hid hdr; have HBX := Lib.hid hbx; have HCR := Lib.hid hcr
        clear hints hdr hbx hfi hcr
        go_wp2_with fail
        refine HFI.out.mono ?_
        rintro e w4 ⟨rfl, P4⟩
        have HP4 := Lib.hid (hP.out.trans P4); have HD4 := Lib.hid (HDR.out.pure P4); have HB4 := Lib.hid (P4.heap HBX.out (fun f => f))
        have HR4 := Lib.hid (owns_keep hrow.out P4 (fun _ _ f => f))
        clear P4 HFI HDR HBX hP hrow
      · obtain ⟨⟨a0, b0⟩, ⟨a1, b1⟩, ⟨a2, b2⟩, ⟨a3, b3⟩, ⟨a4, b4⟩, hlo⟩ := five HOK.out.l5
        obtain ⟨⟨c0, d0⟩, ⟨c1, d1⟩, ⟨c2, d2⟩, ⟨c3, d3⟩, ⟨c4, d4⟩, hhi⟩ := five HOK.out.h5
        have ht1 := fun W (hW : Pure w4 W) => total_any b mb v R d d.lo W HOK.out.l5 h5 HOK.out.lo (by have := HD4.out.pure hW; rw [HRR.out] at this; exact this)
        have ht2 := fun W (hW : Pure w4 W) => total_any b mb v R d d.hi W HOK.out.h5 h5 HOK.out.hi (by have := HD4.out.pure hW; rw [HRR.out] at this; exact this)
        obtain ⟨TL, hTL⟩ : ∃ T, totalOf d.lo R = T := ⟨_, rfl⟩
        obtain ⟨TH, hTH⟩ : ∃ T, totalOf d.hi R = T := ⟨_, rfl⟩
        simp only [hTL] at ht1
        simp only [hTH] at ht2
        have hlf : (d.lo.flatMap pairC).toArray = #[.int .i64 a0, .int .i64 b0, .int .i64 a1, .int .i64 b1, .int .i64 a2, .int .i64 b2, .int .i64 a3, .int .i64 b3, .int .i64 a4, .int .i64 b4] := by rw [hlo]; rfl
        have hhf : (d.hi.flatMap pairC).toArray = #[.int .i64 c0, .int .i64 d0, .int .i64 c1, .int .i64 d1, .int .i64 c2, .int .i64 d2, .int .i64 c3, .int .i64 d3, .int .i64 c4, .int .i64 d4] := by rw [hhi]; rfl
        simp only [hlf] at ht1
        simp only [hhf] at ht2
        have hrow := HD4.out.row
        have hdc : (deskCells m.runners v d mb).toArray = #[.int .i64 m.runners, v, .int .i64 a0, .int .i64 b0, .int .i64 a1, .int .i64 b1, .int .i64 a2, .int .i64 b2, .int .i64 a3, .int .i64 b3, .int .i64 a4, .int .i64 b4, .int .i64 c0, .int .i64 d0, .int .i64 c1, .int .i64 d1, .int .i64 c2, .int .i64 d2, .int .i64 c3, .int .i64 d3, .int .i64 c4, .int .i64 d4, .map (some mb)] := by
          unfold deskCells; rw [hlo, hhi]; rfl
        rw [hdc] at hrow
        have HROW := Lib.hid hrow; have HT1 := Lib.hid ht1; have HT2 := Lib.hid ht2; have HTL := Lib.hid (And.intro hTL hTH)
        clear ht1 ht2 hTL hTH hlf hhf hdc hlo hhi hrow
        have eB : w4.cell? ⟨w.heap.size, 0, none⟩ = some (.pointer (some ⟨b, 0, none⟩)) := cell_of_row _ _ 0 _ _ _ HB4.out
        obtain ⟨w5, hw5⟩ : ∃ x, x = w4.alloc (.cells #[.int .i64 1, .int .i64 1] 23) := ⟨_, rfl⟩
        have P5 : Pure w4 w5 := by rw [hw5]; exact (Only.refl _ w4).alloc _
        have r8 : w5.heap[w4.heap.size]? = some (.cells #[.int .i64 1, .int .i64 1] 23) := by rw [hw5]; exact World.alloc_heap_new w4 _
        have HW5 := Lib.hid hw5; have HP5 := Lib.hid P5; have R8 := Lib.hid r8; have R5 := Lib.hid (P5.heap HROW.out (fun f => f)); have B5 := Lib.hid (P5.heap HB4.out (fun f => f))
        clear hw5 P5 r8
        have gB : ∀ g, (grow w5 g).cell? ⟨w.heap.size, 0, none⟩ = some (.pointer (some ⟨b, 0, none⟩)) := fun g => cell_of_row _ _ 0 _ _ _ ((grow_pure w5 g).heap B5.out (fun f => f))
        have g80 : ∀ g, (grow w5 g).cell? ⟨w4.heap.size, 0, none⟩ = some (.int .i64 1) := fun g => cell_of_row _ _ 0 _ _ _ ((grow_pure w5 g).heap R8.out (fun f => f))
        have g81 : ∀ g, (grow w5 g).cell? ⟨w4.heap.size, 1, none⟩ = some (.int .i64 1) := fun g => cell_of_row _ _ 1 _ _ _ ((grow_pure w5 g).heap R8.out (fun f => f))
        have gl00 : ∀ g, (grow w5 g).cell? ⟨b, 2, none⟩ = some (.int .i64 a0) := fun g => cell_of_row _ _ 2 _ _ _ ((grow_pure w5 g).heap R5.out (fun f => f))
        have gl01 : ∀ g, (grow w5 g).cell? ⟨b, 3, none⟩ = some (.int .i64 b0) := fun g => cell_of_row _ _ 3 _ _ _ ((grow_pure w5 g).heap R5.out (fun f => f))
        have gl10 : ∀ g, (grow w5 g).cell? ⟨b, 4, none⟩ = some (.int .i64 a1) := fun g => cell_of_row _ _ 4 _ _ _ ((grow_pure w5 g).heap R5.out (fun f => f))
        have gl11 : ∀ g, (grow w5 g).cell? ⟨b, 5, none⟩ = some (.int .i64 b1) := fun g => cell_of_row _ _ 5 _ _ _ ((grow_pure w5 g).heap R5.out (fun f => f))
        have gl20 : ∀ g, (grow w5 g).cell? ⟨b, 6, none⟩ = some (.int .i64 a2) := fun g => cell_of_row _ _ 6 _ _ _ ((grow_pure w5 g).heap R5.out (fun f => f))
        have gl21 : ∀ g, (grow w5 g).cell? ⟨b, 7, none⟩ = some (.int .i64 b2) := fun g => cell_of_row _ _ 7 _ _ _ ((grow_pure w5 g).heap R5.out (fun f => f))
        have gl30 : ∀ g, (grow w5 g).cell? ⟨b, 8, none⟩ = some (.int .i64 a3) := fun g => cell_of_row _ _ 8 _ _ _ ((grow_pure w5 g).heap R5.out (fun f => f))
        have gl31 : ∀ g, (grow w5 g).cell? ⟨b, 9, none⟩ = some (.int .i64 b3) := fun g => cell_of_row _ _ 9 _ _ _ ((grow_pure w5 g).heap R5.out (fun f => f))
        have gl40 : ∀ g, (grow w5 g).cell? ⟨b, 10, none⟩ = some (.int .i64 a4) := fun g => cell_of_row _ _ 10 _ _ _ ((grow_pure w5 g).heap R5.out (fun f => f))
        have gl41 : ∀ g, (grow w5 g).cell? ⟨b, 11, none⟩ = some (.int .i64 b4) := fun g => cell_of_row _ _ 11 _ _ _ ((grow_pure w5 g).heap R5.out (fun f => f))
        go_wp2_with fail
        rw [← HW5.out]
        refine mixed_start (by kernel_rfl) ?_
        refine mixed_take [0, 1, 2, 3, 4, 5] (by kernel_rfl) (Only.refl _ _).drew (fun d _ _ _ _ h => by cases d <;> exact h) 3 (by kernel_rfl) ?_
        simp only [picks, List.drop_succ_cons, List.drop_zero, List.take_succ_cons, List.take_zero, List.cons_append, List.nil_append]
        repeat (go_big_quiet_step (fail))
        refine wpQuiet_nil ?_
        refine mixed_force (i := 6) (by kernel_rfl) rfl ?_
        clear gB g80 g81 gl00 gl01 gl10 gl11 gl20 gl21 gl30 gl31 gl40 gl41
        go_wp2_with fail
        refine (HT1.out _ (HP5.out.trans (Only.refl _ _).drew)).mono ?_
        rintro e w6 ⟨rfl, P6⟩
        have Q6 := Lib.hid ((Only.refl (fun _ => False) w5).drew.trans P6)
        clear P6
        go_wp2_with fail
        refine ⟨Q6.out, ?_⟩
        refine mixed_force (i := 7) (by kernel_rfl) rfl ?_
        go_wp2_with fail
        refine (less_any (1, 1) TL _).mono ?_
        rintro e w7 ⟨rfl, P7⟩
        have Q7 := Lib.hid (Q6.out.trans P7)
        clear P7
        obtain ⟨lay, hlay⟩ : ∃ l, lessB (1, 1) TL = l := ⟨_, rfl⟩
        rw [hlay]
        have HLAY := Lib.hid hlay
        clear hlay
        go_wp2_with fail
        refine ⟨Q7.out, ?_⟩
        refine mixed_take [8] (by kernel_rfl) Q7.out (fun d _ _ _ _ h => by cases d <;> exact h) 0 (by kernel_rfl) ?_
        simp only [picks, List.drop_succ_cons, List.drop_zero, List.take_succ_cons, List.take_zero, List.cons_append, List.nil_append]
        repeat (go_big_quiet_step (fail))
        refine wpQuiet_nil ?_
        refine wpAnyG_done (by kernel_rfl) ?_
        obtain ⟨B, hB⟩ : ∃ l, lessB TH (1, 1) = l := ⟨_, rfl⟩
        have HBB := Lib.hid hB
        clear hB
        go_wp2_with fail
        go_cut [72] from 60 to 72 (fun s wx => s = .bool (!lay && !B) ∧ Hid (Pure w7 wx))
        case first =>
          have R7 := Lib.hid (Q7.out.heap R5.out (fun f => f)); have B7 := Lib.hid (Q7.out.heap B5.out (fun f => f)); have R87 := Lib.hid (Q7.out.heap R8.out (fun f => f))
          have gB : ∀ g, (grow w7 g).cell? ⟨w.heap.size, 0, none⟩ = some (.pointer (some ⟨b, 0, none⟩)) := fun g => cell_of_row _ _ 0 _ _ _ ((grow_pure w7 g).heap B7.out (fun f => f))
          have g80 : ∀ g, (grow w7 g).cell? ⟨w4.heap.size, 0, none⟩ = some (.int .i64 1) := fun g => cell_of_row _ _ 0 _ _ _ ((grow_pure w7 g).heap R87.out (fun f => f))
          have g81 : ∀ g, (grow w7 g).cell? ⟨w4.heap.size, 1, none⟩ = some (.int .i64 1) := fun g => cell_of_row _ _ 1 _ _ _ ((grow_pure w7 g).heap R87.out (fun f => f))
          have gl00 : ∀ g, (grow w7 g).cell? ⟨b, 12, none⟩ = some (.int .i64 c0) := fun g => cell_of_row _ _ 12 _ _ _ ((grow_pure w7 g).heap R7.out (fun f => f))
          have gl01 : ∀ g, (grow w7 g).cell? ⟨b, 13, none⟩ = some (.int .i64 d0) := fun g => cell_of_row _ _ 13 _ _ _ ((grow_pure w7 g).heap R7.out (fun f => f))
          have gl10 : ∀ g, (grow w7 g).cell? ⟨b, 14, none⟩ = some (.int .i64 c1) := fun g => cell_of_row _ _ 14 _ _ _ ((grow_pure w7 g).heap R7.out (fun f => f))
          have gl11 : ∀ g, (grow w7 g).cell? ⟨b, 15, none⟩ = some (.int .i64 d1) := fun g => cell_of_row _ _ 15 _ _ _ ((grow_pure w7 g).heap R7.out (fun f => f))
          have gl20 : ∀ g, (grow w7 g).cell? ⟨b, 16, none⟩ = some (.int .i64 c2) := fun g => cell_of_row _ _ 16 _ _ _ ((grow_pure w7 g).heap R7.out (fun f => f))
          have gl21 : ∀ g, (grow w7 g).cell? ⟨b, 17, none⟩ = some (.int .i64 d2) := fun g => cell_of_row _ _ 17 _ _ _ ((grow_pure w7 g).heap R7.out (fun f => f))
          have gl30 : ∀ g, (grow w7 g).cell? ⟨b, 18, none⟩ = some (.int .i64 c3) := fun g => cell_of_row _ _ 18 _ _ _ ((grow_pure w7 g).heap R7.out (fun f => f))
          have gl31 : ∀ g, (grow w7 g).cell? ⟨b, 19, none⟩ = some (.int .i64 d3) := fun g => cell_of_row _ _ 19 _ _ _ ((grow_pure w7 g).heap R7.out (fun f => f))
          have gl40 : ∀ g, (grow w7 g).cell? ⟨b, 20, none⟩ = some (.int .i64 c4) := fun g => cell_of_row _ _ 20 _ _ _ ((grow_pure w7 g).heap R7.out (fun f => f))
          have gl41 : ∀ g, (grow w7 g).cell? ⟨b, 21, none⟩ = some (.int .i64 d4) := fun g => cell_of_row _ _ 21 _ _ _ ((grow_pure w7 g).heap R7.out (fun f => f))
          cases lay
          · go_wp2_with fail
            refine mixed_start (by kernel_rfl) ?_
            refine mixed_take [0, 1, 2, 3, 4, 5, 6, 7, 9] (by kernel_rfl) (Only.refl _ _).drew (fun d _ _ _ _ h => by cases d <;> exact h) 4 (by kernel_rfl) ?_
            simp only [picks, List.drop_succ_cons, List.drop_zero, List.take_succ_cons, List.take_zero, List.cons_append, List.nil_append]
            repeat (go_big_quiet_step (fail))
            refine wpQuiet_nil ?_
            refine mixed_force (i := 8) (by kernel_rfl) rfl ?_
            clear gB g80 g81 gl00 gl01 gl10 gl11 gl20 gl21 gl30 gl31 gl40 gl41
            go_wp2_with fail
            refine (HT2.out _ ((HP5.out.trans Q7.out).trans (Only.refl _ _).drew)).mono ?_
            rintro e w8 ⟨rfl, P8⟩
            have Q8 := Lib.hid ((Only.refl (fun _ => False) w7).drew.trans P8)
            clear P8
            go_wp2_with fail
            refine ⟨Q8.out, ?_⟩
            refine mixed_force (i := 10) (by kernel_rfl) rfl ?_
            go_wp2_with fail
            refine (less_any TH (1, 1) _).mono ?_
            rintro e w9 ⟨rfl, P9⟩
            have Q9 := Lib.hid (Q8.out.trans P9)
            clear P9
            rw [HBB.out]
            go_wp2_with fail
            refine ⟨Q9.out, ?_⟩
            refine mixed_take [11, 12] (by kernel_rfl) Q9.out (fun d _ _ _ _ h => by cases d <;> exact h) 0 (by kernel_rfl) ?_
            simp only [picks, List.drop_succ_cons, List.drop_zero, List.take_succ_cons, List.take_zero, List.cons_append, List.nil_append]
            repeat (go_big_quiet_step (fail))
            refine wpQuiet_nil ?_
            refine wpAnyG_done (by kernel_rfl) ?_
            go_wp2_with fail
            go_meet
            exact ⟨by cases B <;> rfl, Q9⟩
          · go_wp2_with fail
            refine mixed_start (by kernel_rfl) ?_
            refine mixed_take [0, 1, 2, 3, 4, 5, 6, 7, 9] (by kernel_rfl) (Only.refl _ _).drew (fun d _ _ _ _ h => by cases d <;> exact h) 4 (by kernel_rfl) ?_
            simp only [picks, List.drop_succ_cons, List.drop_zero, List.take_succ_cons, List.take_zero, List.cons_append, List.nil_append]
            repeat (go_big_quiet_step (fail))
            refine wpQuiet_nil ?_
            refine mixed_force (i := 8) (by kernel_rfl) rfl ?_
            clear gB g80 g81 gl00 gl01 gl10 gl11 gl20 gl21 gl30 gl31 gl40 gl41
            go_wp2_with fail
            have Q9 := Lib.hid ((Only.refl (fun _ => False) w7).drew)
            refine ⟨Q9.out, ?_⟩
            refine mixed_force (i := 10) (by kernel_rfl) rfl ?_
            go_wp2_with fail
            refine ⟨Q9.out, ?_⟩
            refine mixed_take [11, 12] (by kernel_rfl) Q9.out (fun d _ _ _ _ h => by cases d <;> exact h) 0 (by kernel_rfl) ?_
            simp only [picks, List.drop_succ_cons, List.drop_zero, List.take_succ_cons, List.take_zero, List.cons_append, List.nil_append]
            repeat (go_big_quiet_step (fail))
            refine wpQuiet_nil ?_
            refine wpAnyG_done (by kernel_rfl) ?_
            go_wp2_with fail
            go_meet
            exact ⟨rfl, Q9⟩
        case rest =>
          obtain ⟨rfl, hPc⟩ := hcut
          have HS : Hid (sureOf m d = if (!lay && !B) then ([], false) else ((List.range R).filterMap fun (r : Nat) => d.by_ ((r : Int), lay), true)) := Lib.hid (by
            unfold sureOf; rw [HRR.out, Int.toNat_natCast, HCR.out]; dsimp only; rw [HTL.out.1, HTL.out.2, HLAY.out, HBB.out])
          have HQ := Lib.hid (((HP4.out.trans HP5.out).trans Q7.out).trans hPc.out)
          obtain ⟨z, hz⟩ : ∃ z, (!lay && !B) = z := ⟨_, rfl⟩
          rw [hz] at HS ⊢
          cases z
          · have hDc := HD4.out.pure ((HP5.out.trans Q7.out).trans hPc.out)
            have hBc := ((HP5.out.trans Q7.out).trans hPc.out).heap HB4.out (fun f => f)
            have hRc := owns_keep HR4.out ((HP5.out.trans Q7.out).trans hPc.out) (fun _ _ f => f)
            have eB : wc.cell? ⟨w.heap.size, 0, none⟩ = some (.pointer (some ⟨b, 0, none⟩)) := cell_of_row _ _ 0 _ _ _ hBc
            have eM := hDc.by_
            obtain ⟨o, hrun, m0, hRg⟩ := hDc.map.range Try.underlying114
            have hS : Sweep d lay mb wc.heap.size wc (wc.alloc o) := by
              refine ⟨_, m0, _, hRg, fun s => ⟨fun h => ?_, fun _ => rfl⟩, (Only.refl _ wc).alloc o⟩
              have h1 := h.1; simpa using h1
            have hbn := hDc.ne
            have HSW := Lib.hid hS; have HDC := Lib.hid hDc; have HBC := Lib.hid hBc; have HRC := Lib.hid hRc; have HBN := Lib.hid hbn
            clear hRg hS hDc hBc hRc hbn
            go_wp2_with fail
            clear hrun eB eM
            obtain ⟨rb, hrb⟩ : ∃ rb, rb = wc.heap.size := ⟨_, rfl⟩
            rw [← hrb] at HSW ⊢
            have HRB := Lib.hid hrb
            clear hrb
            have HSZ := Lib.hid (show w.heap.size + 1 ≤ wc.heap.size from by have := HQ.out.size; have := HS1.out; omega)
            go_loopw [] (fun wr => Sweep d lay mb rb wc wr) (fun wr => leftCount wr mb rb)
            case atStart => exact HSW.out
            case round =>
              clear HSW
              obtain ⟨left, mm, f, hRf, hf, hO⟩ := hrel
              have HF := Lib.hid hf; have HO := Lib.hid hO; have HRF := Lib.hid hRf
              clear hf hO
              rcases hRf.next (P := Try.prog) 0 with ⟨hno, hnx⟩ | ⟨x, v0, w5, m4, hlx, hfx, hnx, hO5, hsz, hR5, hmm, hent⟩
              · have hDS : ∀ s, f s = if s.2 = lay then (d.by_ s).map (Value.int .i64) else none := fun s => by
                  by_cases hs : s.2 = lay
                  · rw [if_pos hs]; exact (HF.out s).2 (fun h => h.2 hs)
                  · rw [if_neg hs]; exact (HF.out s).1 ⟨hno s, hs⟩
                have HDS := Lib.hid hDS; have HMAP := Lib.hid hRf.map
                clear hDS hno hRf
                have hbx := HO.out.heap HBC.out (fun e => by omega)
                have hby := HO.out.cell HDC.out.by_ (fun e => HBN.out e)
                have hnum := (owns_ints (l := numsTo R) (by rw [numsTo_len]; exact HRC.out)).keep HO.out (fun q hq e => by have h1 := (owns_lt HRC.out q hq).1; have h2 := HS1.out; omega)
                obtain ⟨a', len', c', hform, hlen', _, _, hcell⟩ := hnum
                cases hform
                have HCELL := Lib.hid hcell; have HBX := Lib.hid hbx; have HBY := Lib.hid hby
                clear hcell hlen' hbx hby
                obtain ⟨wS, rfl⟩ : ∃ y, y = wr := ⟨_, rfl⟩
                go_wp2_with fail
                go_loopw [11, 93] (fun al i ws => ∃ (k n' : Nat) (l : List Int) (ao' : Option Addr) (ac' : Nat), k ≤ R ∧ i = .int .i64 k ∧ al = .slice ao' n' ac' ∧ n' ≤ k ∧ n' ≤ ac' ∧ (ao' = none → n' = 0) ∧ Hid (l.length = n') ∧ Hid (l = (List.range k).filterMap fun (r : Nat) => d.by_ ((r : Int), lay)) ∧ Hid (ws.ownsRow wS.heap.size 3 1 (.slice ao' n' ac') n' (l.map (.int .i64))) ∧ Hid (Pure wS ws)) (fun _ i _ => R - (intOf i).toNat)
                case atStart => exact ⟨0, 0, [], none, 0, Nat.zero_le _, rfl, rfl, Nat.le_refl _, Nat.le_refl _, fun _ => rfl, Lib.hid rfl, Lib.hid rfl, Lib.hid (World.ownsRow_nil _ _ _ _), Lib.hid (Only.refl _ _)⟩
                case round =>
                  obtain ⟨k, n', l, ao', ac', hk, rfl, rfl, hnk, hac, hao, hlen, hfl, hrow, hPs⟩ := hrel
                  by_cases hlt : k < R
                  · obtain ⟨bq, oq, rfl, _, q0⟩ := HCELL.out k hlt
                    have hq : (numsTo R)[k]?.getD 0 = (k : Int) := numsTo_at R k hlt
                    rw [hq] at q0
                    have q1 := hPs.out.cell q0 (fun f => f)
                    have e1 : wr.cell? ⟨w.heap.size, 0, none⟩ = some (.pointer (some ⟨b, 0, none⟩)) := cell_of_row _ _ 0 _ _ _ (hPs.out.heap HBX.out (fun f => f))
                    have e2 := hPs.out.cell HBY.out (fun f => f)
                    have hlk := (HMAP.out.keep hPs.out (fun f => f)).lookOk side_law (T := 114) Try.underlying114 (Try.zeroValue3 _) ((k : Int), lay)
                    rw [HDS.out ((k : Int), lay), if_pos rfl] at hlk
                    unfold sideV at hlk
                    dsimp only at hlk
                    have hsucc : (List.range (k + 1)).filterMap (fun (r : Nat) => d.by_ ((r : Int), lay)) = l ++ (match d.by_ ((k : Int), lay) with | some x => [x] | none => []) := by
                      rw [List.range_succ, List.filterMap_append, ← hfl.out]
                      have e : List.filterMap (fun (r : Nat) => d.by_ ((r : Int), lay)) [k] = (match d.by_ ((k : Int), lay) with | some x => [x] | none => []) := by
                        simp only [List.filterMap_cons, List.filterMap_nil]; cases d.by_ ((k : Int), lay) <;> rfl
                      rw [e]
                    rcases hby : d.by_ ((k : Int), lay) with _ | x
                    · rw [hby] at hlk hsucc
                      have HSU := Lib.hid hsucc
                      clear hsucc hby q0 hq
                      go_wp2_with fail
                      go_roundw
                      case rel => exact ⟨k + 1, n', l, ao', ac', by omega, by go_num, rfl, by omega, hac, hao, hlen, Lib.hid (by rw [HSU.out]; simp), hrow, hPs⟩
                      case measure => simp [intOf]; omega
                    · rw [hby] at hlk hsucc
                      have HSU := Lib.hid hsucc
                      clear hsucc hby q0 hq
                      go_wp2_with (at_builtin; refine Hid.out ?_)
                      refine Lib.hid ?_
                      refine wpList_append_grows _ rfl _ _ 33 rfl 3 i0 (.int .i64 0) 1 8 Try.underlying33 hi hz0 hz1 hz2 rfl (by decide) ao' n' n' (l.map (.int .i64)) rfl ?k1 ?k2 (owns_cells hrow.out ((Only.refl _ wr).alloc _)) ⟨wr.heap.size, 0, none⟩ 1 1 [.int .i64 x] rfl rfl ?k3 ?k4 ?k5 ?k6 ?k7 ?k8
                      case k1 => exact fun h => ⟨hao h, hao h⟩
                      case k2 => rw [List.length_map, hlen.out]; omega
                      case k3 => exact cell_one_new _ _ _
                      case k4 => intro u hu; simp at hu; subst hu; rfl
                      case k5 => omega
                      case k6 => unfold maxLen; omega
                      case k7 => omega
                      intro v' w3 hown hg
                      obtain ⟨ao3, ac3, rfl, hle3, _, hn3, _⟩ := owns_form hown
                      have hP3 := pure_of_grown hg
                      have HR3 := Lib.hid (show w3.ownsRow wS.heap.size 3 1 (.slice ao3 (n' + 1) ac3) (n' + 1) ((l ++ [x]).map (.int .i64)) from by
                        rw [List.map_append]; exact owns_le hown (by have := hPs.out.size; simp; omega))
                      have Q3 := Lib.hid (hPs.out.trans (((Only.refl _ wr).alloc (.cells #[.int .i64 x] 3)).trans hP3))
                      clear hown hg hP3 hlk e1 e2 q1
                      go_wp2_with fail
                      go_roundw
                      case rel => exact ⟨k + 1, n' + 1, l ++ [x], ao3, ac3, by omega, by go_num, rfl, by omega, hle3, (fun h => (hn3 h).1), Lib.hid (by simp [hlen.out]), Lib.hid HSU.out.symm, HR3, Q3⟩
                      case measure => simp [intOf]; omega
                  · obtain rfl : R = k := by omega
                    have HFIN := Lib.hid (show sureOf m d = (l, true) from by rw [HS.out, hfl.out]; rfl)
                    have hints := owns_ints (l := l) (by rw [hlen.out]; exact hrow.out)
                    have HI := Lib.hid (hints.any (D' := fun q => w.heap.size ≤ q) (fun q hq => by
                      have h1 := (owns_lt hrow.out q hq).1
                      have h2 := HO.out.size
                      have h3 := HSZ.out
                      omega))
                    have HOO := Lib.hid (((((HP1.out.trans HQ.out).mono (S' := fun q => q = mb) (fun _ _ f => f.elim)).trans HO.out).trans (hPs.out.mono (fun _ _ f => f.elim))))
                    clear hints
                    go_wp2_with fail
                    go_ret2
                    exact ⟨_, by rw [HFIN.out]; rfl, by rw [HFIN.out]; exact HI.out, HOO.out⟩
              · clear hsz
                obtain ⟨x1, x2⟩ := x
                unfold sideV at hnx hent
                dsimp only at hnx hent
                have eB5 := hO5.heap (HO.out.heap HBC.out (fun e => by omega)) (fun e => by have := HSZ.out; have := HRB.out; omega)
                have eM5 := hO5.cell (HO.out.cell HDC.out.by_ (fun e => HBN.out e)) (fun e => by have e' : b = rb := e; have := HSZ.out; have := HRB.out; omega)
                have hR5' := fun o => hR5.keep ((Only.refl (fun _ => False) w5).alloc o) (fun f => f) (fun f => f)
                obtain ⟨w6, hw6⟩ : ∃ y, y = w5.alloc (.cells #[.int .i64 x1, .bool x2] 118) := ⟨_, rfl⟩
                have P6 : Pure w5 w6 := by rw [hw6]; exact (Only.refl _ w5).alloc _
                have r6 : w6.heap[w5.heap.size]? = some (.cells #[.int .i64 x1, .bool x2] 118) := by rw [hw6]; exact World.alloc_heap_new w5 _
                have m1 : w6.cell? ⟨w5.heap.size, 1, none⟩ = some (.bool x2) := cell_of_row _ _ 1 _ _ _ r6
                have hmm6 : mb < w5.heap.size := by have := HSZ.out; have := HRB.out; have h1 := HO.out.size; have h2 := hO5.size; omega
                have HW6 := Lib.hid hw6; have HP6 := Lib.hid P6; have R6 := Lib.hid r6; have HO5 := Lib.hid hO5; have EB := Lib.hid eB5; have EM := Lib.hid eM5; have HR5 := Lib.hid hR5; have HLX := Lib.hid hlx
                rw [hw6] at m1
                clear hw6 P6 r6 hO5 eB5 eM5 hR5 hR5' hlx hfx
                by_cases hx : x2 = lay
                · subst hx
                  go_wp2_with fail
                  rw [← HW6.out]
                  have hz := sweepS_stay (d := d) (lay := x2) (w0 := wc) (x := (x1, x2)) (by have := HRB.out; omega) HO.out HO5.out HP6.out HR5.out HF.out rfl
                  go_roundw
                  case rel => exact hz.1
                  case measure => rw [hz.2, HRF.out.count]; exact hmm
                · have hxb : (x2 == lay) = false := by simpa using hx
                  obtain ⟨o6, m6, hdel, hR6, hle6⟩ := (HR5.out.keep (HP6.out.trans (Only.refl _ _).drew) (fun f => f) (fun f => f)).delete (ty := 0) side_law Try.underlying114 (x1, x2)
                  have hOp := putObj_only w6.drew mb o6
                  have hz := sweepS_drop (d := d) (lay := lay) (w0 := wc) (x := (x1, x2)) (by have := HRB.out; omega) HO.out HO5.out (HP6.out.trans (Only.refl _ _).drew) hOp hR6 (fun y => by simp) HF.out hx
                  unfold sideV at hdel
                  dsimp only at hdel
                  obtain ⟨G, hG⟩ : ∃ G : World → Prop, ∀ y, G y ↔ Only (fun k => k = mb) w6 y := ⟨_, fun _ => Iff.rfl⟩
                  have gB : ∀ g' : InG G, g'.world.cell? ⟨w.heap.size, 0, none⟩ = some (.pointer (some ⟨b, 0, none⟩)) := fun g' => cell_of_row _ _ 0 _ _ _ (((hG _).1 g'.holds).heap (HP6.out.heap EB.out (fun f => f)) (by omega))
                  have gM : ∀ g' : InG G, g'.world.cell? ⟨b, 22, none⟩ = some (.map (some mb)) := fun g' => ((hG _).1 g'.holds).cell (HP6.out.cell EM.out (fun f => f)) (fun e => HBN.out e)
                  have g0 : ∀ g' : InG G, g'.world.cell? ⟨w5.heap.size, 0, none⟩ = some (.int .i64 x1) := fun g' => cell_of_row _ _ 0 _ _ _ (((hG _).1 g'.holds).heap R6.out (by omega))
                  have g1 : ∀ g' : InG G, g'.world.cell? ⟨w5.heap.size, 1, none⟩ = some (.bool x2) := fun g' => cell_of_row _ _ 1 _ _ _ (((hG _).1 g'.holds).heap R6.out (by omega))
                  haveI hInh : Inhabited (InG G) := ⟨⟨w6, (hG w6).2 (Only.refl _ _)⟩⟩
                  have MKG := Lib.hid (fun y (h : Only (fun k => k = mb) w6 y) => (hG y).2 h)
                  have HZ := Lib.hid hz; have HOP := Lib.hid hOp; have HLE := Lib.hid hle6
                  clear hG hz hOp hR6 hle6
                  go_wp2_with fail
                  rw [← HW6.out]
                  refine any_start G (by kernel_rfl) ?_
                  refine any_take [0, 1, 2, 3, 4] (by kernel_rfl) (MKG.out _ (Only.refl _ _).drew) (fun d _ _ _ _ h => by cases d <;> exact h) 1 (by kernel_rfl) ?_
                  simp only [picks, List.drop_succ_cons, List.drop_zero, List.take_succ_cons, List.take_zero, List.cons_append, List.nil_append]
                  repeat (go_big_quiet_step (fail))
                  refine wpQuiet_nil ?_
                  refine any_force (i := 5) (by kernel_rfl) rfl ?_
                  clear gB gM g0 g1
                  go_wp2_with fail
                  refine ⟨MKG.out _ ((Only.refl _ _).drew.trans HOP.out), any_done (by kernel_rfl) ?_⟩
                  go_wp2_with fail
                  go_roundw
                  case rel => exact HZ.out.1
                  case measure => rw [HZ.out.2, HRF.out.count]; have := HLE.out; omega
          · go_wp2_with fail
            go_ret2
            refine ⟨.slice none 0 0, by rw [HS.out]; rfl, ?_, (HP1.out.trans HQ.out).mono (fun _ _ f => f.elim)⟩
            rw [HS.out]
            exact ⟨none, 0, 0, rfl, rfl, Nat.le_refl _, by omega, fun i hi => by omega⟩
      · have hr := crossed_lt HCR.out
        have hl : ∀ g, ∀ l : Bool, (Instr.lookup 114 (.map (some mb)) (.agg #[.int .i64 (r : Int), .bool l]) false).run Try.prog (grow w4 g) = .ok (.int .i64 ((d.by_ ((r : Int), l)).getD 0)) (grow w4 g) := fun g l => by
          have h := (HD4.out.pure (grow_pure w4 g)).map.look side_law (T := 114) Try.underlying114 (Try.zeroValue3 _) ((r : Int), l)
          unfold sideV at h
          rw [h]
          cases d.by_ ((r : Int), l) <;> rfl
        have l0 := fun g => hl g false
        have l1 := fun g => hl g true
        obtain ⟨x0, hx0⟩ : ∃ x, (d.by_ ((r : Int), false)).getD 0 = x := ⟨_, rfl⟩
        obtain ⟨x1, hx1⟩ : ∃ x, (d.by_ ((r : Int), true)).getD 0 = x := ⟨_, rfl⟩
        simp only [hx0] at l0
        simp only [hx1] at l1
        have HS := Lib.hid (show sureOf m d = ([x0, x1], true) from by
          unfold sureOf; rw [HRR.out, Int.toNat_natCast, HCR.out]; dsimp only; rw [hx0, hx1])
        have gB : ∀ g, (grow w4 g).cell? ⟨w.heap.size, 0, none⟩ = some (.pointer (some ⟨b, 0, none⟩)) := fun g => cell_of_row _ _ 0 _ _ _ ((grow_pure w4 g).heap HB4.out (fun f => f))
        have gM : ∀ g, (grow w4 g).cell? ⟨b, 22, none⟩ = some (.map (some mb)) := fun g => (HD4.out.pure (grow_pure w4 g)).by_
        have b0 := fun W => side_build (r : Int) false W
        have b1 := fun W => side_build (r : Int) true W
        clear hl hx0 hx1
        go_wp2_with fail
        refine mixed_start (by kernel_rfl) ?_
        refine mixed_take [0, 1, 2, 3, 4, 5, 6, 7, 8, 9, 10, 11, 12, 13] (by kernel_rfl) (Only.refl _ _).drew (fun d _ _ _ _ h => by cases d <;> exact h) 3 (by kernel_rfl) ?_
        simp only [picks, List.drop_succ_cons, List.drop_zero, List.take_succ_cons, List.take_zero, List.cons_append, List.nil_append]
        repeat (go_big_quiet_step (fail))
        refine wpQuiet_nil ?_
        refine mixed_force (i := 14) (by kernel_rfl) rfl ?_
        go_wp2_with fail
        have hpa := ((Only.refl (fun _ => False) w4).alloc (.cells #[.int .i64 x0, .int .i64 x1] 3)).drew
        have hnew := World.alloc_heap_new w4 (.cells #[.int .i64 x0, .int .i64 x1] 3)
        have HPA := Lib.hid hpa; have HNEW := Lib.hid hnew
        clear hpa hnew
        refine ⟨HPA.out, ?_⟩
        refine mixed_take [15, 16] (by kernel_rfl) HPA.out (fun d _ _ _ _ h => by cases d <;> exact h) 0 (by kernel_rfl) ?_
        simp only [picks, List.drop_succ_cons, List.drop_zero, List.take_succ_cons, List.take_zero, List.cons_append, List.nil_append]
        repeat (go_big_quiet_step (fail))
        refine wpQuiet_nil ?_
        refine wpAnyG_done (by kernel_rfl) ?_
        go_wp2_with fail
        go_ret2
        refine ⟨_, by rw [HS.out]; rfl, ?_, ?_⟩
        · rw [HS.out]
          have hsz := Nat.le_trans HP1.out.size HP4.out.size
          exact ⟨some ⟨w4.heap.size, 0, none⟩, 2, 2, rfl, rfl, Nat.le_refl _, by omega, fun i hi => ⟨w4.heap.size, 0, rfl, hsz, by
            show (w4.alloc _).cell? _ = _
            rw [cell_of_row _ _ _ _ _ _ HNEW.out]
            rcases (by omega : i = 0 ∨ i = 1) with rfl | rfl <;> rfl⟩⟩
        · exact ((HP1.out.trans HP4.out).trans HPA.out).mono (fun _ _ f => f.elim)
end Go.Proofs.Ythnjfekkngpbjaa

/- net, sum. -/
namespace Go.Proofs.Ythnjfekkngpbjaa
open Go.RowKit Go.Shelf

theorem sumW_take (l : List Int) (k : Nat) (h : k < l.length) : sumW (l.take (k + 1)) = wrap64 (sumW (l.take k) + sAt l k) := by
  unfold sumW sAt
  rw [List.take_add_one, List.foldl_append, List.getElem?_eq_getElem h]; rfl

set_option maxHeartbeats 1000000 in
set_option maxRecDepth 100000 in
theorem sum_any (D : Nat → Prop) (v : Value) (l : List Int) (w : World) (hv : Ints D w v l) : Calls Try.prog 68 #[v] w fun e w' => e = .returned (.int .i64 (sumW l)) ∧ Pure w w' := by
  obtain ⟨a, n, cap, rfl, hlen, _, hm, hc⟩ := hv
  have HL := Lib.hid hlen; have HC := Lib.hid hc
  clear hlen hc
  go_enter Try.func68, Try.ntmps68
  go_wp2_with fail
  go_loopw [3, 8] (fun acc i wr => ∃ k : Nat, k ≤ n ∧ acc = .int .i64 (sumW (l.take k)) ∧ i = .int .i64 k ∧ Hid (Pure w wr)) (fun _ i _ => n - (intOf i).toNat)
  case atStart => exact ⟨0, Nat.zero_le _, by simp [sumW], rfl, Lib.hid (Only.refl _ _)⟩
  case round =>
    obtain ⟨k, hk, rfl, rfl, hP⟩ := hrel
    by_cases hlt : k < n
    · obtain ⟨b, off, rfl, _, c0⟩ := HC.out k hlt
      have k0 := hP.out.cell c0 (fun f => f)
      have hs := sumW_take l k (by rw [← HL.out]; exact hlt)
      unfold sAt at hs
      obtain ⟨x, hx⟩ : ∃ x, l[k]?.getD 0 = x := ⟨_, rfl⟩
      obtain ⟨s, hsk⟩ : ∃ s, sumW (l.take k) = s := ⟨_, rfl⟩
      rw [hx] at k0 hs
      rw [hsk] at hs ⊢
      have HS := Lib.hid hs
      clear hs hx c0
      go_wp2_with fail
      go_roundw
      case rel => exact ⟨k + 1, by omega, by rw [HS.out], by go_num, hP⟩
      case measure => simp [intOf]; omega
    · obtain rfl : n = k := by omega
      have HS := Lib.hid (show sumW (l.take n) = sumW l from by rw [List.take_of_length_le (by rw [← HL.out]; omega)])
      go_wp2_with fail
      go_ret
      exact ⟨by rw [← HS.out]; rfl, hP.out⟩

theorem netTo_succ (m : Market) (st : List Int) (r : Int) (k : Nat) : netTo m st r (k + 1) = wrap64 (netTo m st r k + wonOf (qAt m.quotes k) (sAt st k) r) := by unfold netTo; rw [List.range_succ, List.foldl_append]; rfl

set_option maxHeartbeats 2000000 in
set_option maxRecDepth 100000 in
theorem net_any (D D' : Nat → Prop) (b mb : Nat) (v u : Value) (m : Market) (d : DeskS) (st : List Int) (r : Int) (w : World) (hd : DeskAt w b mb v m.runners d) (hq : Quotes D w v m.quotes) (hs : Ints D' w u st) (hm : checkMarket m = 0) (hl : st.length = m.quotes.length) :
    Calls Try.prog 61 #[.pointer (some ⟨b, 0, none⟩), u, .int .i64 r] w fun e w' => e = .returned (.int .i64 (netOf m st r)) ∧ Pure w w' := by
  obtain ⟨r1, r5, l12, hqs⟩ := market_zero hm
  have e1 := hd.quotes
  obtain ⟨ad, n, cp, rfl, hlen, hlc, hmax, hc⟩ := hq
  obtain ⟨sa, n', cs, rfl, hlen', hlc', hmax', hc'⟩ := hs
  obtain rfl : n' = n := by omega
  have hfin : netOf m st r = netTo m st r n' := by unfold netOf; rw [hlen]
  rw [hfin]
  rw [← hlen] at hqs l12
  have HC := Lib.hid hc; have HC' := Lib.hid hc'; have HQS := Lib.hid hqs
  have HL := Lib.hid hlen; have HL' := Lib.hid hlen'
  clear hd hc hc' hqs hfin hlen hlen' hl hm
  go_enter Try.func61, Try.ntmps61
  go_wp2_with fail
  go_loopw [7, 17] (fun acc i wr => ∃ k : Nat, k ≤ n' ∧ acc = .int .i64 (netTo m st r k) ∧ i = .int .i64 k ∧ Hid (Pure w wr)) (fun _ i _ => n' - (intOf i).toNat)
  case atStart => exact ⟨0, Nat.zero_le _, rfl, rfl, Lib.hid (Only.refl _ _)⟩
  case round =>
    obtain ⟨k, hk, rfl, rfl, hP⟩ := hrel
    by_cases hlt : k < n'
    · obtain ⟨bq, oq, rfl, _, x0, x1, x2, x3⟩ := HC.out k hlt
      obtain ⟨bs, os, rfl, _, y0⟩ := HC'.out k hlt
      obtain ⟨p1, p2, p3, p4, p5, p6⟩ := HQS.out k hlt
      have hs := netTo_succ m st r k
      have k0 := hP.out.cell x0 (fun f => f)
      have k1 := hP.out.cell x1 (fun f => f)
      have k2 := hP.out.cell x2 (fun f => f)
      have k3 := hP.out.cell x3 (fun f => f)
      have z0 := hP.out.cell y0 (fun f => f)
      have hqa : (m.quotes[k]?.getD ⟨0, 0, 0, false⟩) = qAt m.quotes k := rfl
      have hsa : st[k]?.getD 0 = sAt st k := rfl
      rw [hqa] at k0 k1 k2 k3
      rw [hsa] at z0
      obtain ⟨q, hq⟩ : ∃ q, qAt m.quotes k = q := ⟨_, rfl⟩
      obtain ⟨s, hss⟩ : ∃ s, sAt st k = s := ⟨_, rfl⟩
      obtain ⟨acc, hacc⟩ : ∃ s, netTo m st r k = s := ⟨_, rfl⟩
      rw [hq] at k0 k1 k2 k3 hs p5
      rw [hss] at z0 hs
      rw [hacc] at hs ⊢
      obtain ⟨qr, qn, qd, ql⟩ := q
      dsimp only at k0 k1 k2 k3 p5
      have hd0 : qd ≠ 0 := by omega
      obtain ⟨T1, hT1⟩ : ∃ x, wrap64 ((2520 : Int).tdiv qd) = x := ⟨_, rfl⟩
      obtain ⟨T2, hT2⟩ : ∃ x, wrap64 (T1 * qn) = x := ⟨_, rfl⟩
      obtain ⟨T3, hT3⟩ : ∃ x, wrap64 (T2 * s) = x := ⟨_, rfl⟩
      obtain ⟨U, hU⟩ : ∃ x, wrap64 (-2520 * s) = x := ⟨_, rfl⟩
      unfold wonOf at hs
      dsimp only at hs
      rw [hT1, hT2, hT3, hU] at hs
      have HS := Lib.hid hs
      obtain ⟨w5, hw5⟩ : ∃ x, x = wr.alloc (.cells #[.int .i64 qr, .int .i64 qn, .int .i64 qd, .bool ql] 83) := ⟨_, rfl⟩
      have P5 : Pure wr w5 := by rw [hw5]; exact (Only.refl _ wr).alloc _
      have r6 : w5.heap[wr.heap.size]? = some (.cells #[.int .i64 qr, .int .i64 qn, .int .i64 qd, .bool ql] 83) := by rw [hw5]; exact World.alloc_heap_new wr _
      have z1 := P5.cell z0 (fun f => f)
      have m0 : w5.cell? ⟨wr.heap.size, 0, none⟩ = some (.int .i64 qr) := cell_of_row _ _ 0 _ _ _ r6
      have m1 : w5.cell? ⟨wr.heap.size, 1, none⟩ = some (.int .i64 qn) := cell_of_row _ _ 1 _ _ _ r6
      have m2 : w5.cell? ⟨wr.heap.size, 2, none⟩ = some (.int .i64 qd) := cell_of_row _ _ 2 _ _ _ r6
      have m3 : w5.cell? ⟨wr.heap.size, 3, none⟩ = some (.bool ql) := cell_of_row _ _ 3 _ _ _ r6
      have HW5 := Lib.hid hw5; have HP5 := Lib.hid (hP.out.trans P5)
      clear hw5 P5 r6 hs x0 x1 x2 x3 y0 hqa hsa hq hss hacc p1 p2 p3 p4 p5 p6 hP
      go_upto_region 5 with fail
      rw [← HW5.out]
      by_cases hr : qr = r
      · subst hr
        cases ql
        · go_wp2_with fail
          go_quiet (fail)
          go_wp2_with fail
          go_roundw
          case rel => exact ⟨k + 1, by omega, by rw [HS.out]; simp, by go_num, Lib.hid (HP5.out.drewN _)⟩
          case measure => simp [intOf]; omega
        · go_wp2_with fail
          go_quiet (fail)
          go_wp2_with fail
          go_roundw
          case rel => exact ⟨k + 1, by omega, by rw [HS.out]; simp, by go_num, Lib.hid (HP5.out.drewN _)⟩
          case measure => simp [intOf]; omega
      · have hrb : (qr == r) = false := by simpa using hr
        cases ql
        · go_wp2_with fail
          go_roundw
          case rel => exact ⟨k + 1, by omega, by rw [HS.out]; simp [hr], by go_num, HP5⟩
          case measure => simp [intOf]; omega
        · go_wp2_with fail
          go_roundw
          case rel => exact ⟨k + 1, by omega, by rw [HS.out]; simp [hr], by go_num, HP5⟩
          case measure => simp [intOf]; omega
    · obtain rfl : n' = k := by omega
      go_wp2_with fail
      go_ret
      exact ⟨rfl, hP.out⟩
end Go.Proofs.Ythnjfekkngpbjaa

/- staked; Net. -/
namespace Go.Proofs.Ythnjfekkngpbjaa
open Go.RowKit Go.Shelf

theorem st1 {m : Market} {s : List Int} (h : checkMarket m ≠ 0) : stakedE m s = checkMarket m := by unfold stakedE; rw [if_pos h]
theorem st2 {m : Market} {s : List Int} (h : checkMarket m = 0) (k : s.length ≠ m.quotes.length) : stakedE m s = 15 := by unfold stakedE; rw [if_neg (fun x => x h), if_pos k]
theorem st3 {m : Market} {s : List Int} (h : checkMarket m = 0) (k : s.length = m.quotes.length) : stakedE m s = if withinB 0 1099511627776 s = false then 3 else 0 := by unfold stakedE; rw [if_neg (fun x => x h), if_neg (fun x => x k)]
theorem staked_zero {m : Market} {s : List Int} (h : stakedE m s = 0) : checkMarket m = 0 ∧ s.length = m.quotes.length := by
  unfold stakedE at h
  by_cases h1 : checkMarket m = 0
  · rw [if_neg (fun x => x h1)] at h
    by_cases h2 : s.length = m.quotes.length
    · exact ⟨h1, h2⟩
    · rw [if_pos h2] at h; cases h
  · rw [if_pos h1] at h; exact absurd h h1

/-- What staked hands back: an error, or a desk. -/
def StakedTo (w : World) (v : Value) (m : Market) (s : List Int) (e : Ending) (w' : World) : Prop :=
  Pure w w' ∧ ((stakedE m s ≠ 0 ∧ e = .returned (.tuple #[.pointer none, .int .i64 (stakedE m s)])) ∨
    (stakedE m s = 0 ∧ ∃ b mb, e = .returned (.tuple #[.pointer (some ⟨b, 0, none⟩), .int .i64 0]) ∧ w.heap.size ≤ b ∧ w.heap.size ≤ mb ∧ DeskAt w' b mb v m.runners (deskOf m)))

set_option maxHeartbeats 2000000 in
set_option maxRecDepth 100000 in
theorem staked_any (D D' : Nat → Prop) (v u : Value) (m : Market) (s : List Int) (w : World) (hq : Quotes D w v m.quotes) (hs : Ints D' w u s) : Calls Try.prog 59 #[.agg #[.int .i64 m.runners, v], u] w fun e w' => StakedTo w v m s e w' := by
  have hP1 : Pure w (w.alloc (.cells #[.int .i64 m.runners, v] 29)) := (Only.refl _ w).alloc _
  have k0 := World.alloc_heap_new w (.cells #[.int .i64 m.runners, v] 29)
  have hcm := checkMarket_any D v m _ (hq.pure hP1)
  have hwi := fun W (hW : Pure w W) => within_any D' 0 1099511627776 u s W (hs.pure hW)
  have hnd := fun W (hW : Pure w W) h => newDesk_any D v m W (hq.pure hW) h
  obtain ⟨ad, cp, rfl⟩ := hq.form
  obtain ⟨a, ns, cs, rfl, hls, _⟩ := hs
  obtain ⟨nq, hnq⟩ : ∃ n, m.quotes.length = n := ⟨_, rfl⟩
  have b1 := st1 (m := m) (s := s)
  have b2 := st2 (m := m) (s := s)
  have b3 := st3 (m := m) (s := s)
  rw [hnq] at hcm k0 hP1 b2 b3 ⊢
  simp only [hnq] at hnd
  rw [← hls] at b2 b3
  have HP := Lib.hid hP1; have K0 := Lib.hid k0
  unfold StakedTo
  obtain ⟨E, hE⟩ : ∃ E, checkMarket m = E := ⟨_, rfl⟩
  obtain ⟨F, hF⟩ : ∃ E, stakedE m s = E := ⟨_, rfl⟩
  obtain ⟨B, hB⟩ : ∃ E, withinB 0 1099511627776 s = E := ⟨_, rfl⟩
  rw [hE] at hcm b1 b2 b3 hnd
  rw [hF] at b1 b2 b3 ⊢
  rw [hB] at b3
  simp only [hB] at hwi
  have HCM := Lib.hid hcm; have HWI := Lib.hid hwi; have HND := Lib.hid hnd
  clear hcm hwi hnd hP1 k0 hE hF hB hnq hls hq
  by_cases he : E = 0
  · obtain rfl := he
    clear b1
    by_cases hl : ns = nq
    · obtain rfl := hl
      have b4 := b3 rfl rfl
      clear b2 b3
      cases B
      · obtain rfl : F = 3 := by rw [b4]; rfl
        clear b4
        go_enter Try.func59, Try.ntmps59
        go_wp2_with fail
        refine HCM.out.mono ?_
        rintro e w2 ⟨rfl, P2⟩
        have HP2 := Lib.hid (HP.out.trans P2)
        have c1 : w2.cell? ⟨w.heap.size, 1, none⟩ = some (.slice ad ns cp) := cell_of_row _ _ 1 _ _ _ (P2.heap K0.out (fun f => f))
        clear P2
        go_wp2_with fail
        refine (HWI.out _ HP2.out).mono ?_
        rintro e w3 ⟨rfl, P3⟩
        have HP3 := Lib.hid (HP2.out.trans P3)
        clear P3 c1
        go_wp2_with fail
        go_ret2
        exact ⟨HP3.out, .inl ⟨by decide, rfl⟩⟩
      · obtain rfl : F = 0 := by rw [b4]; rfl
        clear b4
        go_enter Try.func59, Try.ntmps59
        go_wp2_with fail
        refine HCM.out.mono ?_
        rintro e w2 ⟨rfl, P2⟩
        have HP2 := Lib.hid (HP.out.trans P2)
        have K2 := Lib.hid (P2.heap K0.out (fun f => f))
        have c1 : w2.cell? ⟨w.heap.size, 1, none⟩ = some (.slice ad ns cp) := cell_of_row _ _ 1 _ _ _ K2.out
        clear P2
        go_wp2_with fail
        refine (HWI.out _ HP2.out).mono ?_
        rintro e w3 ⟨rfl, P3⟩
        have HP3 := Lib.hid (HP2.out.trans P3)
        have k3 := P3.heap K2.out (fun f => f)
        clear P3 c1
        have c0 : w3.cell? ⟨w.heap.size, 0, none⟩ = some (.int .i64 m.runners) := cell_of_row _ _ 0 _ _ _ k3
        have c1 : w3.cell? ⟨w.heap.size, 1, none⟩ = some (.slice ad ns cp) := cell_of_row _ _ 1 _ _ _ k3
        clear k3
        go_wp2_with fail
        refine (HND.out _ HP3.out trivial).mono ?_
        rintro e w4 ⟨b, mb, rfl, hb, hmb, hdk, P4⟩
        have HP4 := Lib.hid (HP3.out.trans P4); have HDK := Lib.hid hdk
        have HBM := Lib.hid (And.intro (Nat.le_trans HP3.out.size hb) (Nat.le_trans HP3.out.size hmb))
        clear P4 c0 c1 hb hmb hdk
        go_wp2_with fail
        go_ret2
        exact ⟨HP4.out, .inr ⟨by first | rfl | trivial, b, mb, rfl, HBM.out.1, HBM.out.2, HDK.out⟩⟩
    · obtain rfl := b2 rfl hl
      have hlb : ((ns : Int) == (nq : Int)) = false := by simp; omega
      clear b3 b2
      go_enter Try.func59, Try.ntmps59
      go_wp2_with fail
      refine HCM.out.mono ?_
      rintro e w2 ⟨rfl, P2⟩
      have HP2 := Lib.hid (HP.out.trans P2)
      have c1 : w2.cell? ⟨w.heap.size, 1, none⟩ = some (.slice ad nq cp) := cell_of_row _ _ 1 _ _ _ (P2.heap K0.out (fun f => f))
      clear P2
      go_wp2_with fail
      go_ret2
      exact ⟨HP2.out, .inl ⟨by decide, rfl⟩⟩
  · obtain rfl := b1 he
    have heb : (F == 0) = false := by simpa using he
    clear b1 b2 b3
    go_enter Try.func59, Try.ntmps59
    go_wp2_with fail
    refine HCM.out.mono ?_
    rintro e w2 ⟨rfl, P2⟩
    have HP2 := Lib.hid (HP.out.trans P2)
    clear P2
    go_wp2_with fail
    go_ret2
    exact ⟨HP2.out, .inl ⟨he, rfl⟩⟩
end Go.Proofs.Ythnjfekkngpbjaa

/- Stakes. -/
namespace Go.Proofs.Ythnjfekkngpbjaa
open Go.RowKit Go.Shelf

def TQ (q : Quote) : Int := wrap64 (q.den + q.num)
def allStep (m : Market) (a n : Int) : Int := wrap64 (wrap64 (a.tdiv (com a (TQ (qAt m.quotes n.toNat)))) * TQ (qAt m.quotes n.toNat))
theorem allQ_take (m : Market) (l : List Int) (k : Nat) (h : k < l.length) : allQ m (l.take (k + 1)) = allStep m (allQ m (l.take k)) (sAt l k) := by
  unfold allQ sAt
  rw [List.take_add_one, List.foldl_append, List.getElem?_eq_getElem h]; rfl
def putStep (m : Market) (all : Int) (o : List Int) (n : Int) : List Int := o.set n.toNat (wrap64 (wrap64 (all.tdiv (TQ (qAt m.quotes n.toNat))) * (qAt m.quotes n.toNat).den))
theorem put_take (m : Market) (all : Int) (l out : List Int) (k : Nat) (h : k < l.length) : putStakes m all (l.take (k + 1)) out = putStep m all (putStakes m all (l.take k) out) (sAt l k) := by
  unfold putStakes sAt
  rw [List.take_add_one, List.foldl_append, List.getElem?_eq_getElem h]; rfl
theorem put_len (m : Market) (all : Int) (l out : List Int) : (putStakes m all l out).length = out.length := by
  unfold putStakes
  induction l generalizing out with
  | nil => rfl
  | cons a l ih => rw [List.foldl_cons, ih]; simp
theorem skR1 {m : Market} (h : checkMarket m ≠ 0) : stakesR m = ([], checkMarket m) := by unfold stakesR; rw [if_pos h]
theorem skR2 {m : Market} (h : checkMarket m = 0) (k : (sureOf m (deskOf m)).2 = false) : stakesR m = ([], 5) := by unfold stakesR; rw [if_neg (fun x => x h)]; simp [k]
theorem skR3 {m : Market} (h : checkMarket m = 0) (k : (sureOf m (deskOf m)).2 = true) : stakesR m = (putStakes m (allQ m (sureOf m (deskOf m)).1) (sureOf m (deskOf m)).1 (List.replicate m.quotes.length 0), 0) := by unfold stakesR; rw [if_neg (fun x => x h)]; simp [k]
/-- Where a desk's limits cross, or are a sure thing, the numbers are numbers of quotes. -/
theorem sure_bd {m : Market} {d : DeskS} {R n : Nat} (hR : m.runners = R) (hd : DeskOK d R n) (hn : 0 < n) : ∀ x, x ∈ (sureOf m d).1 → 0 ≤ x ∧ x < n := by
  intro x hx
  unfold sureOf at hx
  rw [hR, Int.toNat_natCast] at hx
  have hg : ∀ s : Side, 0 ≤ (d.by_ s).getD 0 ∧ (d.by_ s).getD 0 < n := fun s => by
    cases h : d.by_ s with
    | none => exact ⟨Int.le_refl _, by simpa using hn⟩
    | some y => obtain ⟨_, _, h1, h2⟩ := hd.by_ s y h; exact ⟨h1, h2⟩
  split at hx
  · simp only [List.mem_cons, List.mem_nil_iff, or_false] at hx
    rcases hx with rfl | rfl
    · exact hg _
    · exact hg _
  · dsimp only at hx
    split at hx
    · cases hx
    · obtain ⟨r, _, hr⟩ := List.mem_filterMap.1 hx
      obtain ⟨_, _, h1, h2⟩ := hd.by_ _ _ hr
      exact ⟨h1, h2⟩
theorem sure_bd0 {m : Market} (hm : checkMarket m = 0) : ∀ x, x ∈ (sureOf m (deskOf m)).1 → 0 ≤ x ∧ x < m.quotes.length := by
  obtain ⟨r1, r5, _, _⟩ := market_zero hm
  obtain ⟨R, hR⟩ : ∃ R : Nat, m.runners = R := ⟨m.runners.toNat, by omega⟩
  have hok := deskOK m hm
  rw [hR, Int.toNat_natCast] at hok
  rcases Nat.eq_zero_or_pos m.quotes.length with h0 | h0
  · intro x hx
    exfalso
    have hD : deskOf m = deskK R := by
      unfold deskOf; rw [h0]
      have := desk0_K m (by omega)
      rw [hR, Int.toNat_natCast] at this; exact this
    have hnone : crossedAt (deskK R) R = none := by
      unfold crossedAt
      rw [List.find?_eq_none]
      intro r hr
      rw [List.mem_range] at hr
      have h5 : r < 5 := by omega
      simp [deskK, frAt, h5, hr, lessB, wrap64]
    unfold sureOf at hx
    rw [hD, hR, Int.toNat_natCast, hnone] at hx
    dsimp only at hx
    split at hx
    · cases hx
    · obtain ⟨r, _, hr⟩ := List.mem_filterMap.1 hx
      cases hr
  · exact sure_bd hR hok h0
theorem infoE2 : (Try.prog.info? 2).map (fun i => (i.zero, i.size, i.bytes)) = some (some (.int .i64 0), 1, 8) := by kernel_rfl
theorem sure_none0 {m : Market} {R : Nat} (hR : m.runners = R) (h1 : 1 ≤ R) (h5 : R ≤ 5) : (sureOf m (deskK R)).2 = false := by
  unfold sureOf
  rw [hR, Int.toNat_natCast]
  clear hR
  rcases (by omega : R = 1 ∨ R = 2 ∨ R = 3 ∨ R = 4 ∨ R = 5) with rfl | rfl | rfl | rfl | rfl <;> decide +kernel
theorem deskOf_none {m : Market} {R : Nat} (hR : m.runners = R) (h0 : m.quotes.length = 0) : deskOf m = deskK R := by
  unfold deskOf; rw [h0]
  have := desk0_K m (by omega)
  rw [hR, Int.toNat_natCast] at this; exact this
theorem sAt_mem {l : List Int} {k : Nat} (h : k < l.length) : sAt l k ∈ l := by unfold sAt; rw [List.getElem?_eq_getElem h]; exact List.getElem_mem _

set_option maxHeartbeats 1000000 in
set_option maxRecDepth 100000 in
theorem Stakes_any (D : Nat → Prop) (v : Value) (m : Market) (w : World) (hq : Quotes D w v m.quotes) : Calls Try.prog 30 #[.agg #[.int .i64 m.runners, v]] w fun e w' => ∃ u, e = .returned (.tuple #[u, .int .i64 (stakesR m).2]) ∧ w'.ownsRow w.heap.size 2 1 u (stakesR m).1.length ((stakesR m).1.map (.int .i64)) ∧ Pure w w' := by
  have hP1 : Pure w (w.alloc (.cells #[.int .i64 m.runners, v] 29)) := (Only.refl _ w).alloc _
  have k0 := World.alloc_heap_new w (.cells #[.int .i64 m.runners, v] 29)
  have hcm := checkMarket_any D v m _ (hq.pure hP1)
  have hnd := fun W (hW : Pure w W) h => newDesk_any D v m W (hq.pure hW) h
  have hmz := fun (h : checkMarket m = 0) => market_zero h
  have hok := fun (h : checkMarket m = 0) => deskOK m h
  have hbd := fun (h : checkMarket m = 0) => sure_bd0 h
  have n1 := skR1 (m := m)
  have n2 := skR2 (m := m)
  have n3 := skR3 (m := m)
  obtain ⟨ad, n, cp, rfl, hlen, hlc, hmax, hc⟩ := hq
  obtain ⟨i0, hi, hz0, hz1, hz2⟩ := info_parts infoI3
  obtain ⟨X, hX⟩ : ∃ X, stakesR m = X := ⟨_, rfl⟩
  rw [hX] at n1 n2 n3 ⊢
  obtain ⟨E, hE⟩ : ∃ E, checkMarket m = E := ⟨_, rfl⟩
  simp only [hE] at n1 n2 n3 hcm hnd hmz hok hbd
  have HP := Lib.hid hP1; have K0 := Lib.hid k0; have HCM := Lib.hid hcm; have HND := Lib.hid hnd; have HMZ := Lib.hid hmz; have HOK := Lib.hid hok; have HBD := Lib.hid hbd
  have HC := Lib.hid hc; have HL := Lib.hid hlen; have N1 := Lib.hid n1; have N2 := Lib.hid n2; have N3 := Lib.hid n3
  clear hP1 k0 hcm hnd hmz hok hbd hc hlen n1 n2 n3 hX hE
  by_cases he : E = 0
  · obtain rfl := he
    obtain ⟨r1, r5, l12, hqs⟩ := HMZ.out rfl
    rw [← HL.out] at l12 hqs
    obtain ⟨R, hR⟩ : ∃ R : Nat, m.runners = R := ⟨m.runners.toNat, by omega⟩
    rw [hR] at HND HCM HP K0 ⊢
    have HQS := Lib.hid hqs; have HR := Lib.hid hR
    have hokR := HOK.out rfl
    rw [hR, Int.toNat_natCast] at hokR
    have HOKR := Lib.hid hokR
    clear hqs hokR r1 hR
    go_enter Try.func30, Try.ntmps30
    go_wp2_with fail
    refine HCM.out.mono ?_
    rintro e w2 ⟨rfl, P2⟩
    have HP2 := Lib.hid (HP.out.trans P2)
    have K2 := Lib.hid (P2.heap K0.out (fun f => f))
    have c0 : w2.cell? ⟨w.heap.size, 0, none⟩ = some (.int .i64 (R : Int)) := cell_of_row _ _ 0 _ _ _ K2.out
    have c1 : w2.cell? ⟨w.heap.size, 1, none⟩ = some (.slice ad n cp) := cell_of_row _ _ 1 _ _ _ K2.out
    clear P2
    go_wp2_with fail
    refine (HND.out _ HP2.out trivial).mono ?_
    rintro e w3 ⟨b, mb, rfl, hb, hmb, hdk, P3⟩
    have HP3 := Lib.hid (HP2.out.trans P3); have K3 := Lib.hid (P3.heap K2.out (fun f => f)); have HDK := Lib.hid hdk
    have HBM := Lib.hid (Nat.le_trans HP2.out.size hmb)
    have HMB := Lib.hid (show mb ≠ w.heap.size from fun e => by
      have h1 := hdk.map; obtain ⟨_, _, hmi, _⟩ := h1
      have h2 := hmi.heap; rw [e, P3.heap K2.out (fun f => f)] at h2; cases h2)
    have hsu := sure_any b mb _ m R m.quotes.length (deskOf m) w3 (by rw [HR.out]; exact hdk) HR.out (by have := (HMZ.out (by first | rfl | trivial)).1; have := HR.out; omega) (by have := HR.out; omega) HOKR.out
    have n2 := N2.out (by first | rfl | trivial)
    have n3 := N3.out (by first | rfl | trivial)
    have hbd := HBD.out (by first | rfl | trivial)
    obtain ⟨⟨SL, SO⟩, hS⟩ : ∃ S, sureOf m (deskOf m) = S := ⟨_, rfl⟩
    have hpos : SO = true → 0 < n := fun h => by
      rcases Nat.eq_zero_or_pos n with h0 | h0
      · exfalso
        have h2 := sure_none0 HR.out (by have := (HMZ.out (by first | rfl | trivial)).1; have := HR.out; omega) (by have := HR.out; omega)
        rw [← deskOf_none HR.out (by rw [← HL.out]; exact h0), hS] at h2
        dsimp only at h2
        rw [h] at h2; cases h2
      · exact h0
    have HPOS := Lib.hid hpos
    clear hpos
    unfold SureTo at hsu
    rw [hS] at hsu n2 n3 hbd
    dsimp only at hsu n2 n3 hbd
    have HSU := Lib.hid hsu; have N2' := Lib.hid n2; have N3' := Lib.hid n3; have HBD' := Lib.hid hbd
    clear P3 hb hmb hdk c0 c1 hsu n2 n3 hbd hS
    go_wp2_with fail
    refine HSU.out.mono ?_
    rintro e w4 ⟨u, rfl, hu, hO4⟩
    have hP4 : Pure w w4 := HP3.out.trans' hO4 (fun q hq e => by have := HBM.out; omega)
    have hk4 := hO4.heap K3.out (fun e => HMB.out e.symm)
    have c1 : w4.cell? ⟨w.heap.size, 1, none⟩ = some (.slice ad n cp) := cell_of_row _ _ 1 _ _ _ hk4
    obtain ⟨au, nu, cu, rfl, hnu, hcu, hmu, hcell⟩ := hu
    have HP4 := Lib.hid hP4; have K4 := Lib.hid hk4; have HCU := Lib.hid hcell; have HNU := Lib.hid hnu
    clear hO4 hP4 hk4 hcell hnu HSU HDK
    cases SO
    · have HX := Lib.hid (N2'.out rfl)
      go_wp2_with fail
      go_ret2
      exact ⟨.slice none 0 0, by rw [HX.out]; rfl, by rw [HX.out]; exact World.ownsRow_nil _ _ _ _, HP4.out⟩
    · have HX := Lib.hid (N3'.out rfl)
      go_wp2_with fail
      go_loopw [7, 30] (fun al i wr => ∃ k : Nat, k ≤ nu ∧ al = .int .i64 (allQ m (SL.take k)) ∧ i = .int .i64 k ∧ Hid (Pure w4 wr)) (fun _ i _ => nu - (intOf i).toNat)
      case atStart => exact ⟨0, Nat.zero_le _, by simp [allQ], rfl, Lib.hid (Only.refl _ _)⟩
      case round =>
        clear c1
        obtain ⟨k, hk, rfl, rfl, hP⟩ := hrel
        by_cases hlt : k < nu
        · obtain ⟨bu, ou, rfl, _, q0⟩ := HCU.out k hlt
          have hkl : k < SL.length := by rw [← HNU.out]; exact hlt
          have hsa : SL[k]?.getD 0 = sAt SL k := rfl
          rw [hsa] at q0
          obtain ⟨hx0, hx1⟩ := HBD'.out _ (sAt_mem hkl)
          have hst := allQ_take m SL k hkl
          obtain ⟨x, hx⟩ : ∃ x, sAt SL k = x := ⟨_, rfl⟩
          rw [hx] at q0 hx0 hx1 hst
          obtain ⟨j, rfl⟩ : ∃ j : Nat, x = j := ⟨x.toNat, by omega⟩
          have hj : j < n := by rw [HL.out]; omega
          unfold allStep TQ at hst
          rw [Int.toNat_natCast] at hst
          obtain ⟨bq, oq, rfl, _, x0, x1, x2, x3⟩ := HC.out j hj
          obtain ⟨p1, p2, p3, p4, p5, p6⟩ := HQS.out j hj
          have hqa : (m.quotes[j]?.getD ⟨0, 0, 0, false⟩) = qAt m.quotes j := rfl
          rw [hqa] at x0 x1 x2 x3
          obtain ⟨q, hq⟩ : ∃ q, qAt m.quotes j = q := ⟨_, rfl⟩
          rw [hq] at x0 x1 x2 x3 hst p1 p2 p3 p4 p5 p6
          obtain ⟨qr, qn, qd, ql⟩ := q
          dsimp only at x0 x1 x2 x3 hst p1 p2 p3 p4 p5 p6
          obtain ⟨T, hT⟩ : ∃ T, wrap64 (qd + qn) = T := ⟨_, rfl⟩
          have hT0 : T ≠ 0 := by rw [← hT]; unfold wrap64; omega
          obtain ⟨a, ha⟩ : ∃ a, allQ m (SL.take k) = a := ⟨_, rfl⟩
          rw [hT, ha] at hst
          have hcom := fun W => com_any a T W
          have hc0 := com_ne (a := a) hT0
          obtain ⟨g, hg⟩ : ∃ g, com a T = g := ⟨_, rfl⟩
          simp only [hg] at hcom
          rw [hg] at hst hc0
          obtain ⟨Q1, hQ1⟩ : ∃ y, wrap64 (a.tdiv g) = y := ⟨_, rfl⟩
          obtain ⟨Q2, hQ2⟩ : ∃ y, wrap64 (Q1 * T) = y := ⟨_, rfl⟩
          rw [hQ1, hQ2] at hst
          rw [ha]
          have hPw := HP4.out.trans hP.out
          have y0 := hP.out.cell q0 (fun f => f)
          have k1 : wr.cell? ⟨w.heap.size, 1, none⟩ = some (.slice (some ⟨bq, oq, none⟩) n cp) := cell_of_row _ _ 1 _ _ _ (hP.out.heap K4.out (fun f => f))
          have z0 := hPw.cell x0 (fun f => f)
          have z1 := hPw.cell x1 (fun f => f)
          have z2 := hPw.cell x2 (fun f => f)
          have z3 := hPw.cell x3 (fun f => f)
          obtain ⟨w7, hw7⟩ : ∃ x, x = wr.alloc (.cells #[.int .i64 qr, .int .i64 qn, .int .i64 qd, .bool ql] 83) := ⟨_, rfl⟩
          have P7 : Pure wr w7 := by rw [hw7]; exact (Only.refl _ wr).alloc _
          have r7 : w7.heap[wr.heap.size]? = some (.cells #[.int .i64 qr, .int .i64 qn, .int .i64 qd, .bool ql] 83) := by rw [hw7]; exact World.alloc_heap_new wr _
          have g1 : ∀ g', (grow w7 g').cell? ⟨wr.heap.size, 1, none⟩ = some (.int .i64 qn) := fun g' => cell_of_row _ _ 1 _ _ _ ((grow_pure w7 g').heap r7 (fun f => f))
          have g2 : ∀ g', (grow w7 g').cell? ⟨wr.heap.size, 2, none⟩ = some (.int .i64 qd) := fun g' => cell_of_row _ _ 2 _ _ _ ((grow_pure w7 g').heap r7 (fun f => f))
          have HW7 := Lib.hid hw7; have HP7 := Lib.hid (hP.out.trans P7); have HCOM := Lib.hid hcom; have HST := Lib.hid hst
          clear hw7 P7 r7 hcom hst hx hq hqa hsa q0 x0 x1 x2 x3 p1 p2 p3 p4 p5 p6 hT0 ha hg hPw hkl
          go_wp2_with fail
          rw [← HW7.out]
          refine mixed_start (by kernel_rfl) ?_
          refine mixed_take [0, 1, 2, 3, 4, 5, 6, 9, 10, 11, 12, 13] (by kernel_rfl) (Only.refl _ _).drew (fun d _ _ _ _ h => by cases d <;> exact h) 4 (by kernel_rfl) ?_
          simp only [picks, List.drop_succ_cons, List.drop_zero, List.take_succ_cons, List.take_zero, List.cons_append, List.nil_append]
          repeat (go_big_quiet_step (fail))
          refine wpQuiet_nil ?_
          refine mixed_force (i := 7) (by kernel_rfl) rfl ?_
          clear g1 g2
          go_wp2_with fail
          refine (HCOM.out _).mono ?_
          rintro e w8 ⟨rfl, P8⟩
          have Q8 := Lib.hid ((Only.refl (fun _ => False) w7).drew.trans P8)
          clear P8
          go_wp2_with fail
          refine ⟨Q8.out, ?_⟩
          refine mixed_take [8, 14, 15] (by kernel_rfl) Q8.out (fun d _ _ _ _ h => by cases d <;> exact h) 0 (by kernel_rfl) ?_
          simp only [picks, List.drop_succ_cons, List.drop_zero, List.take_succ_cons, List.take_zero, List.cons_append, List.nil_append]
          repeat (go_big_quiet_step (fail))
          refine wpQuiet_nil ?_
          refine wpAnyG_done (by kernel_rfl) ?_
          go_wp2_with fail
          go_roundw
          case rel => exact ⟨k + 1, by omega, by rw [HST.out]; first | rfl | rw [hQ2], by go_num, Lib.hid (HP7.out.trans Q8.out)⟩
          case measure => simp [intOf]; omega
        · obtain rfl : nu = k := by omega
          have hn0 := HPOS.out (by first | rfl | trivial)
          have hall : allQ m (SL.take nu) = allQ m SL := by rw [List.take_of_length_le (by rw [← HNU.out]; exact Nat.le_refl _)]
          rw [hall]
          obtain ⟨all, hal⟩ : ∃ a, allQ m SL = a := ⟨_, rfl⟩
          rw [hal]
          obtain ⟨j0, hj, hjz, hj1, hj2⟩ := info_parts infoE2
          have c2 : wr.cell? ⟨w.heap.size, 1, none⟩ = some (.slice ad n cp) := cell_of_row _ _ 1 _ _ _ (hP.out.heap K4.out (fun f => f))
          have HAL := Lib.hid hal
          clear hall hal
          go_wp2_with (at_make; refine wpList_make_full _ rfl _ _ 30 rfl wr.heap.size 2 j0 (.int .i64 0) 1 Try.underlying30 hj hjz hj1 .i64 .i64 _ _ n rfl rfl rfl rfl (by rw [hj2]; omega) (by unfold maxLen; omega) (Nat.le_refl _) ?_; intro w5 hown hg)
          have hown' := hown
          rw [made_zeros] at hown'
          obtain ⟨wc, hrun, hO, hhc⟩ := run_clear_row (P := Try.prog) w5 30 2 0 (.int .i64 0) Try.underlying30 (Try.zeroValue2 _) rfl rfl wr.heap.size 0 n n _ 2 (owns_full hown').1 hn0 (by simp)
          have hz : (((List.replicate n (0 : Int)).map (Value.int .i64)).toArray.toList.take 0 ++ List.replicate n (Value.int .i64 0) ++ ((List.replicate n (0 : Int)).map (Value.int .i64)).toArray.toList.drop (0 + n)).toArray = ((putStakes m all (SL.take 0) (List.replicate n 0)).map (Value.int .i64)).toArray := by
            simp [putStakes]
          rw [hz] at hhc
          obtain ⟨B, hB⟩ : ∃ B, B = wr.heap.size := ⟨_, rfl⟩
          have hPc : Pure wr wc := (pure_of_grown hg).trans' hO (fun i hi e => by omega)
          rw [← hB] at hhc
          have HP1 := Lib.hid hPc; have HH := Lib.hid hhc; have HB := Lib.hid hB
          clear hown hown' hg hO hhc hz hPc c2
          rw [hrun]
          clear hrun
          obtain ⟨wS, rfl⟩ : ∃ y, y = wr := ⟨_, rfl⟩
          rw [← hB]
          clear hB
          go_wp2_with fail
          go_loopw [62] (fun i ws => ∃ k : Nat, k ≤ nu ∧ i = .int .i64 k ∧ Hid (ws.heap[B]? = some (.cells ((putStakes m all (SL.take k) (List.replicate n 0)).map (Value.int .i64)).toArray 2 (0, 0))) ∧ Hid (Pure wS ws)) (fun i _ => nu - (intOf i).toNat)
          case atStart => exact ⟨0, Nat.zero_le _, rfl, HH, HP1⟩
          case round =>
            obtain ⟨k, hk2, rfl, hrow, hPs⟩ := hrel
            by_cases hlt2 : k < nu
            · obtain ⟨bu, ou, rfl, _, q0⟩ := HCU.out k hlt2
              have hkl : k < SL.length := by rw [← HNU.out]; exact hlt2
              have hsa : SL[k]?.getD 0 = sAt SL k := rfl
              rw [hsa] at q0
              obtain ⟨hx0, hx1⟩ := HBD'.out _ (sAt_mem hkl)
              have hst := put_take m all SL (List.replicate n 0) k hkl
              obtain ⟨x, hx⟩ : ∃ x, sAt SL k = x := ⟨_, rfl⟩
              rw [hx] at q0 hx0 hx1 hst
              obtain ⟨j, rfl⟩ : ∃ j : Nat, x = j := ⟨x.toNat, by omega⟩
              have hjn : j < n := by rw [HL.out]; omega
              unfold putStep TQ at hst
              rw [Int.toNat_natCast] at hst
              obtain ⟨bq, oq, rfl, _, x0, x1, x2, x3⟩ := HC.out j hjn
              obtain ⟨p1, p2, p3, p4, p5, p6⟩ := HQS.out j hjn
              have hqa : (m.quotes[j]?.getD ⟨0, 0, 0, false⟩) = qAt m.quotes j := rfl
              rw [hqa] at x0 x1 x2 x3
              obtain ⟨q, hq⟩ : ∃ q, qAt m.quotes j = q := ⟨_, rfl⟩
              rw [hq] at x0 x1 x2 x3 hst p1 p2 p3 p4 p5 p6
              obtain ⟨qr, qn, qd, ql⟩ := q
              dsimp only at x0 x1 x2 x3 hst p1 p2 p3 p4 p5 p6
              obtain ⟨T, hT⟩ : ∃ T, wrap64 (qd + qn) = T := ⟨_, rfl⟩
              have hT0 : T ≠ 0 := by rw [← hT]; unfold wrap64; omega
              rw [hT] at hst
              obtain ⟨Q1, hQ1⟩ : ∃ y, wrap64 (all.tdiv T) = y := ⟨_, rfl⟩
              obtain ⟨Q2, hQ2⟩ : ∃ y, wrap64 (Q1 * qd) = y := ⟨_, rfl⟩
              rw [hQ1, hQ2] at hst
              have hP0 := hP.out.trans hPs.out
              have hPw := HP4.out.trans hP0
              have y0 := hP0.cell q0 (fun f => f)
              have k1 : wr.cell? ⟨w.heap.size, 1, none⟩ = some (.slice (some ⟨bq, oq, none⟩) n cp) := cell_of_row _ _ 1 _ _ _ (hP0.heap K4.out (fun f => f))
              have z0 := hPw.cell x0 (fun f => f)
              have z1 := hPw.cell x1 (fun f => f)
              have z2 := hPw.cell x2 (fun f => f)
              have z3 := hPw.cell x3 (fun f => f)
              obtain ⟨w7, hw7⟩ : ∃ x, x = wr.alloc (.cells #[.int .i64 qr, .int .i64 qn, .int .i64 qd, .bool ql] 83) := ⟨_, rfl⟩
              have P7 : Pure wr w7 := by rw [hw7]; exact (Only.refl _ wr).alloc _
              have r7 : w7.heap[wr.heap.size]? = some (.cells #[.int .i64 qr, .int .i64 qn, .int .i64 qd, .bool ql] 83) := by rw [hw7]; exact World.alloc_heap_new wr _
              have g1 : ∀ g', (grow w7 g').cell? ⟨wr.heap.size, 1, none⟩ = some (.int .i64 qn) := fun g' => cell_of_row _ _ 1 _ _ _ ((grow_pure w7 g').heap r7 (fun f => f))
              have g2 : ∀ g', (grow w7 g').cell? ⟨wr.heap.size, 2, none⟩ = some (.int .i64 qd) := fun g' => cell_of_row _ _ 2 _ _ _ ((grow_pure w7 g').heap r7 (fun f => f))
              have hr7 := P7.heap hrow.out (fun f => f)
              obtain ⟨L, hL⟩ : ∃ L, putStakes m all (SL.take k) (List.replicate n 0) = L := ⟨_, rfl⟩
              have hLl : L.length = n := by rw [← hL, put_len]; simp
              rw [hL] at hr7 hst
              have kn := arr_get hr7 j (by rw [hLl]; exact hjn)
              have fr := fun j => arr_frozen hr7 j
              have hsto := arr_store hr7 j Q2
              have hO9 := ((Only.refl (fun q => q = B) w7).setCell (p := ⟨B, j, none⟩) (.inl rfl) (.int .i64 Q2))
              rw [← hst] at hsto
              obtain ⟨zz, hzz⟩ : ∃ z, L[j]?.getD 0 = z := ⟨_, rfl⟩
              rw [hzz] at kn
              have HW7 := Lib.hid hw7; have HST := Lib.hid hsto
              have HP7 := Lib.hid (show Pure wS (w7.setCell ⟨B, j, none⟩ (.int .i64 Q2)) from (hPs.out.trans P7).trans' hO9 (fun i hi e => by have := HB.out; omega))
              clear hw7 P7 r7 hsto hst hx hq hqa hsa q0 x0 x1 x2 x3 p1 p2 p3 p4 p5 p6 hPw hkl hr7 hL hO9 hzz hP0
              go_wp2_with fail
              rw [← HW7.out]
              refine mixed_start (by kernel_rfl) ?_
              refine mixed_take [0, 1, 2, 3, 4, 5, 6, 7, 8, 9, 10, 11, 12] (by kernel_rfl) (Only.refl _ _).drew (fun d _ _ _ _ h => by cases d <;> exact h) 1 (by kernel_rfl) ?_
              simp only [picks, List.drop_succ_cons, List.drop_zero, List.take_succ_cons, List.take_zero, List.cons_append, List.nil_append]
              repeat (go_big_quiet_step (fail))
              refine wpQuiet_nil ?_
              refine mixed_last (i := 13) (by kernel_rfl) rfl (by kernel_rfl) (by kernel_rfl) ?_
              clear g1 g2
              go_wp2_with fail
              go_roundw
              case rel => exact ⟨k + 1, by omega, by go_num, HST, Lib.hid HP7.out.drew⟩
              case measure => simp [intOf]; omega
            · obtain rfl : nu = k := by omega
              have hall : putStakes m all (SL.take nu) (List.replicate n 0) = putStakes m all SL (List.replicate n 0) := by rw [List.take_of_length_le (by rw [← HNU.out]; exact Nat.le_refl _)]
              rw [hall] at hrow
              have hown := owns_mk (B := w.heap.size) hrow.out (by have := HB.out; have h1 := (HP4.out.trans hP.out).size; omega) (by rw [List.length_map, put_len]; simp) (by unfold maxLen; omega : n ≤ maxLen)
              obtain ⟨LL, hLL⟩ : ∃ l, putStakes m all SL (List.replicate n 0) = l := ⟨_, rfl⟩
              have hLn : LL.length = n := by rw [← hLL, put_len, List.length_replicate]
              have hI := (show World.ownsRow _ w.heap.size 2 1 _ LL.length (LL.map (.int .i64)) from by rw [hLn, ← hLL]; exact hown)
              have HI := Lib.hid hI
              have HF := Lib.hid (show X = (LL, 0) from by rw [HX.out, HAL.out, ← hLL, HL.out])
              have HPF := Lib.hid (HP4.out.trans (hP.out.trans hPs.out))
              clear hall hrow hown hI hLL hLn
              go_wp2_with fail
              go_ret2
              exact ⟨_, by rw [HF.out]; rfl, by rw [HF.out]; exact HI.out, HPF.out⟩
  · have HX := Lib.hid (N1.out he)
    have heb : (E == 0) = false := by simpa using he
    go_enter Try.func30, Try.ntmps30
    go_wp2_with fail
    refine HCM.out.mono ?_
    rintro e w2 ⟨rfl, P2⟩
    have HP2 := Lib.hid (HP.out.trans P2)
    clear P2
    go_wp2_with fail
    go_ret2
    exact ⟨.slice none 0 0, by rw [HX.out]; rfl, by rw [HX.out]; exact World.ownsRow_nil _ _ _ _, HP2.out⟩
end Go.Proofs.Ythnjfekkngpbjaa

/- Chances. -/
namespace Go.Proofs.Ythnjfekkngpbjaa
open Go.RowKit Go.Shelf

theorem chR1 {m : Market} (h : checkMarket m ≠ 0) : chancesR m = ([], checkMarket m) := by unfold chancesR; rw [if_pos h]
theorem chR2 {m : Market} (h : checkMarket m = 0) (k : (sureOf m (deskOf m)).2 = true) : chancesR m = ([], 20) := by unfold chancesR; rw [if_neg (fun x => x h), k]; rfl
theorem chR3 {m : Market} (h : checkMarket m = 0) (k : (sureOf m (deskOf m)).2 = false) : chancesR m = (chancesOf m (deskOf m), 0) := by unfold chancesR; rw [if_neg (fun x => x h), k]; rfl

set_option maxHeartbeats 1000000 in
set_option maxRecDepth 100000 in
theorem Chances_any (D : Nat → Prop) (v : Value) (m : Market) (w : World) (hq : Quotes D w v m.quotes) : Calls Try.prog 37 #[.agg #[.int .i64 m.runners, v]] w fun e w' => ∃ u, e = .returned (.tuple #[u, .int .i64 (chancesR m).2]) ∧ w'.ownsRow w.heap.size 2 1 u (chancesR m).1.length ((chancesR m).1.map (.int .i64)) ∧ Pure w w' := by
  have hP1 : Pure w (w.alloc (.cells #[.int .i64 m.runners, v] 29)) := (Only.refl _ w).alloc _
  have k0 := World.alloc_heap_new w (.cells #[.int .i64 m.runners, v] 29)
  have hcm := checkMarket_any D v m _ (hq.pure hP1)
  have hnd := fun W (hW : Pure w W) h => newDesk_any D v m W (hq.pure hW) h
  have hmz := fun (h : checkMarket m = 0) => market_zero h
  have hok := fun (h : checkMarket m = 0) => deskOK m h
  have n1 := chR1 (m := m)
  have n2 := chR2 (m := m)
  have n3 := chR3 (m := m)
  obtain ⟨ad, n, cp, rfl, hlen, hlc, hmax, hc⟩ := hq
  obtain ⟨X, hX⟩ : ∃ X, chancesR m = X := ⟨_, rfl⟩
  rw [hX] at n1 n2 n3 ⊢
  obtain ⟨E, hE⟩ : ∃ E, checkMarket m = E := ⟨_, rfl⟩
  simp only [hE] at n1 n2 n3 hcm hnd hmz hok
  have HP := Lib.hid hP1; have K0 := Lib.hid k0; have HCM := Lib.hid hcm; have HND := Lib.hid hnd; have HMZ := Lib.hid hmz; have HOK := Lib.hid hok
  have HL := Lib.hid hlen; have N1 := Lib.hid n1; have N2 := Lib.hid n2; have N3 := Lib.hid n3
  clear hP1 k0 hcm hnd hmz hok hc hlen n1 n2 n3 hX hE
  by_cases he : E = 0
  · obtain rfl := he
    obtain ⟨r1, r5, l12, hqs⟩ := HMZ.out rfl
    obtain ⟨R, hR⟩ : ∃ R : Nat, m.runners = R := ⟨m.runners.toNat, by omega⟩
    rw [hR] at HND HCM HP K0 ⊢
    have HR := Lib.hid hR
    have hokR := HOK.out rfl
    rw [hR, Int.toNat_natCast] at hokR
    have HOKR := Lib.hid hokR
    have r1' : 1 ≤ R := by omega
    have r5' : R ≤ 5 := by omega
    clear hqs hokR r1 r5 l12 hR
    go_enter Try.func37, Try.ntmps37
    go_wp2_with fail
    refine HCM.out.mono ?_
    rintro e w2 ⟨rfl, P2⟩
    have HP2 := Lib.hid (HP.out.trans P2)
    have K2 := Lib.hid (P2.heap K0.out (fun f => f))
    have c0 : w2.cell? ⟨w.heap.size, 0, none⟩ = some (.int .i64 (R : Int)) := cell_of_row _ _ 0 _ _ _ K2.out
    have c1 : w2.cell? ⟨w.heap.size, 1, none⟩ = some (.slice ad n cp) := cell_of_row _ _ 1 _ _ _ K2.out
    clear P2
    go_wp2_with fail
    refine (HND.out _ HP2.out trivial).mono ?_
    rintro e w3 ⟨b, mb, rfl, hb, hmb, hdk, P3⟩
    have HP3 := Lib.hid (HP2.out.trans P3)
    have HDK := Lib.hid hdk.toRow
    have HBM := Lib.hid (Nat.le_trans HP2.out.size hmb)
    have HNE := Lib.hid hdk.ne
    have hsu := sure_any b mb _ m R m.quotes.length (deskOf m) w3 (by rw [HR.out]; exact hdk) HR.out r1' r5' HOKR.out
    have n2 := N2.out (by first | rfl | trivial)
    have n3 := N3.out (by first | rfl | trivial)
    obtain ⟨⟨SL, SO⟩, hS⟩ : ∃ S, sureOf m (deskOf m) = S := ⟨_, rfl⟩
    unfold SureTo at hsu
    rw [hS] at hsu n2 n3
    dsimp only at hsu n2 n3
    have HSU := Lib.hid hsu; have N2' := Lib.hid n2; have N3' := Lib.hid n3
    clear P3 hb hmb hdk c0 c1 hsu n2 n3 hS
    go_wp2_with fail
    refine HSU.out.mono ?_
    rintro e w4 ⟨u, rfl, hu, hO4⟩
    have hP4 : Pure w w4 := HP3.out.trans' hO4 (fun q hq e => by have := HBM.out; omega)
    have HDR := Lib.hid (HDK.out.keep hO4 HNE.out)
    have HP4 := Lib.hid hP4
    obtain ⟨au, nu, cu, rfl⟩ := hu.form
    clear hO4 hP4 hu HSU HDK
    cases SO
    · have HX := Lib.hid (N3'.out rfl)
      have hch := chances_any b mb _ m R m.quotes.length (deskOf m) w4 (by rw [HR.out]; exact HDR.out) HR.out r1' r5' HOKR.out
      have HCH := Lib.hid hch
      clear hch
      go_wp2_with fail
      refine HCH.out.mono ?_
      rintro e w5 ⟨u, rfl, hu, P5⟩
      have HP5 := Lib.hid (HP4.out.trans P5)
      have HU := Lib.hid (owns_le hu HP4.out.size)
      obtain ⟨a5, c5, rfl, _⟩ := owns_form hu
      clear hu P5 HCH
      go_wp2_with fail
      go_ret2
      exact ⟨_, by rw [HX.out]; rfl, by rw [HX.out]; exact HU.out, HP5.out⟩
    · have HX := Lib.hid (N2'.out rfl)
      go_wp2_with fail
      go_ret2
      exact ⟨.slice none 0 0, by rw [HX.out]; rfl, by rw [HX.out]; exact World.ownsRow_nil _ _ _ _, HP4.out⟩
  · have HX := Lib.hid (N1.out he)
    have heb : (E == 0) = false := by simpa using he
    go_enter Try.func37, Try.ntmps37
    go_wp2_with fail
    refine HCM.out.mono ?_
    rintro e w2 ⟨rfl, P2⟩
    have HP2 := Lib.hid (HP.out.trans P2)
    clear P2
    go_wp2_with fail
    go_ret2
    exact ⟨.slice none 0 0, by rw [HX.out]; rfl, by rw [HX.out]; exact World.ownsRow_nil _ _ _ _, HP2.out⟩
end Go.Proofs.Ythnjfekkngpbjaa

/- simplest. -/
namespace Go.Proofs.Ythnjfekkngpbjaa
open Go.RowKit Go.Shelf

theorem simpF_succ (f : Nat) (lo hi : Fr) : simpF (f + 1) lo hi = (if (lo.1 + lo.2 - 1) / lo.2 * hi.2 ≤ hi.1 then ((lo.1 + lo.2 - 1) / lo.2, 1) else
      (wrap64 (wrap64 (((lo.1 + lo.2 - 1) / lo.2 - 1) * (simpF f (hi.2, hi.1 - ((lo.1 + lo.2 - 1) / lo.2 - 1) * hi.2) (lo.2, lo.1 - ((lo.1 + lo.2 - 1) / lo.2 - 1) * lo.2)).1) + (simpF f (hi.2, hi.1 - ((lo.1 + lo.2 - 1) / lo.2 - 1) * hi.2) (lo.2, lo.1 - ((lo.1 + lo.2 - 1) / lo.2 - 1) * lo.2)).2),
       (simpF f (hi.2, hi.1 - ((lo.1 + lo.2 - 1) / lo.2 - 1) * hi.2) (lo.2, lo.1 - ((lo.1 + lo.2 - 1) / lo.2 - 1) * lo.2)).1)) := rfl

set_option maxHeartbeats 1000000 in
set_option maxRecDepth 100000 in
theorem simplest_any (f : Nat) : ∀ (lo hi : Fr) (w : World), 0 ≤ lo.1 → lo.1 ≤ 1000000000 → 1 ≤ lo.2 → lo.2 ≤ 1000000000 → 0 ≤ hi.1 → hi.1 ≤ 1000000000 → 1 ≤ hi.2 → hi.2 ≤ 1000000000 → lo.1 * hi.2 ≤ hi.1 * lo.2 → (lo.2 + hi.2).toNat ≤ f →
    Calls Try.prog 50 #[.agg #[.int .i64 lo.1, .int .i64 lo.2], .agg #[.int .i64 hi.1, .int .i64 hi.2]] w fun e w' => e = .returned (.agg #[.int .i64 (simpF f lo hi).1, .int .i64 (simpF f lo hi).2]) ∧ Pure w w' := by
  induction f with
  | zero => intro lo hi w h1 h2 h3 h4 h5 h6 h7 h8 h9 h10; omega
  | succ f ih =>
    rintro ⟨a, b⟩ ⟨c, d⟩ w h1 h2 h3 h4 h5 h6 h7 h8 h9 h10
    dsimp only at h1 h2 h3 h4 h5 h6 h7 h8 h9 h10
    have hw1 : wrap64 (wrap64 (a + b) - 1) = a + b - 1 := by unfold wrap64; omega
    have hq : (a + b - 1).tdiv b = (a + b - 1) / b := Int.tdiv_eq_ediv_of_nonneg (by omega)
    obtain ⟨q, hqq⟩ : ∃ q, (a + b - 1) / b = q := ⟨_, rfl⟩
    have hdv := Int.mul_ediv_add_emod (a + b - 1) b
    have hmo := Int.emod_nonneg (a + b - 1) (show b ≠ 0 by omega)
    have hml := Int.emod_lt_of_pos (a + b - 1) (show 0 < b by omega)
    rw [hqq] at hdv hq
    have hq0 : 0 ≤ q := by rw [← hqq]; exact Int.ediv_nonneg (by omega) (by omega)
    have hqa : q ≤ a + b - 1 := by rw [← hqq]; exact Int.ediv_le_self _ (by omega)
    have hqd : q * d ≤ 2000000000 * 1000000000 := Int.mul_le_mul (by omega) h8 (by omega) (by omega)
    have hqd0 : 0 ≤ q * d := Int.mul_nonneg hq0 (by omega)
    have hwd : wrap64 (q * d) = q * d := by unfold wrap64; omega
    have hqb : q * b ≤ a + b - 1 := by rw [Int.mul_comm]; omega
    have hqb2 : a + b - 1 < q * b + b := by rw [Int.mul_comm]; omega
    have hq1 : c < q * d → 0 ≤ q - 1 := fun h => by
      rcases Int.lt_or_le q 1 with h' | h'
      · obtain rfl : q = 0 := by omega
        rw [Int.zero_mul] at h; omega
      · omega
    have hlow : (q - 1) * b < a := by rw [Int.sub_mul]; omega
    have hcd : c < q * d → (q - 1) * d < c := fun h => by
      rcases Int.lt_or_le ((q - 1) * d) c with h' | h'
      · exact h'
      · exfalso
        have e1 : c * b ≤ (q - 1) * d * b := Int.mul_le_mul_of_nonneg_right h' (by omega)
        have e2 : (q - 1) * b * d < a * d := Int.mul_lt_mul_of_pos_right hlow (by omega)
        rw [Int.mul_right_comm] at e2
        omega
    have HM := Lib.hid (And.intro hlow (And.intro hq1 hcd)); have HMM := Lib.hid (show a ≤ q * b by omega)
    clear hlow hq1 hcd hqb hqb2
    rw [simpF_succ]
    dsimp only
    rw [hqq]
    have hwq : wrap64 ((a + b - 1).tdiv b) = q := by rw [hq]; unfold wrap64; omega
    clear hdv hmo hml
    obtain ⟨w3, hw3⟩ : ∃ x, x = ((w.alloc (.cells #[.int .i64 a, .int .i64 b] 23)).alloc (.cells #[.int .i64 c, .int .i64 d] 23)).alloc (.cells #[.int .i64 0, .int .i64 0] 23) := ⟨_, rfl⟩
    have hP3 : Pure w w3 := by rw [hw3]; exact (((Only.refl _ w).alloc _).alloc _).alloc _
    have hk3 : w3.heap[w.heap.size + 1 + 1]? = some (.cells #[.int .i64 0, .int .i64 0] 23) := by
      have h := World.alloc_heap_new ((w.alloc (.cells #[.int .i64 a, .int .i64 b] 23)).alloc (.cells #[.int .i64 c, .int .i64 d] 23)) (.cells #[.int .i64 0, .int .i64 0] 23)
      simp only [World.size_alloc] at h; rw [hw3]; exact h
    have HW3 := Lib.hid hw3; have HP3 := Lib.hid hP3; have HK3 := Lib.hid hk3; have HIH := Lib.hid @ih
    clear hw3 hP3 hk3 ih
    rcases Int.lt_or_le c (q * d) with hlt | hle
    · rw [if_neg (Int.not_le.mpr hlt)]
      have hu1 : (q - 1) * d < c := HM.out.2.2 hlt
      have hu0 : 0 ≤ (q - 1) * d := Int.mul_nonneg (HM.out.2.1 hlt) (by omega)
      have hv1 := HM.out.1
      have hv2 : a ≤ (q - 1) * b + b := by have := HMM.out; rw [Int.sub_mul]; omega
      have hv0 : 0 ≤ (q - 1) * b := Int.mul_nonneg (HM.out.2.1 hlt) (by omega)
      have hud : c < (q - 1) * d + d := by rw [Int.sub_mul]; omega
      have hcr : d * (a - (q - 1) * b) ≤ b * (c - (q - 1) * d) := by
        have e1 : d * ((q - 1) * b) = b * ((q - 1) * d) := by rw [Int.mul_left_comm, Int.mul_comm d b, Int.mul_left_comm]
        rw [Int.mul_sub, Int.mul_sub, e1, Int.mul_comm d a, Int.mul_comm b c]; omega
      obtain ⟨m, hm⟩ : ∃ m, (q - 1) * d = m := ⟨_, rfl⟩
      obtain ⟨k, hk⟩ : ∃ k, (q - 1) * b = k := ⟨_, rfl⟩
      rw [hm] at hu1 hu0 hud hcr ⊢
      rw [hk] at hv1 hv2 hv0 hcr ⊢
      have hwm : wrap64 ((q - 1) * d) = m := by rw [hm]; unfold wrap64; omega
      have hwk : wrap64 ((q - 1) * b) = k := by rw [hk]; unfold wrap64; omega
      obtain ⟨u, hu⟩ : ∃ u, c - m = u := ⟨_, rfl⟩
      obtain ⟨v, hv⟩ : ∃ v, a - k = v := ⟨_, rfl⟩
      rw [hu, hv] at hcr
      rw [hu, hv]
      have hwu : wrap64 (c - m) = u := by rw [hu]; unfold wrap64; omega
      have hwv : wrap64 (a - k) = v := by rw [hv]; unfold wrap64; omega
      have hrec := HIH.out (d, u) (b, v) w3 (by dsimp only; omega) (by dsimp only; omega) (by dsimp only; omega) (by dsimp only; omega) (by dsimp only; omega) (by dsimp only; omega) (by dsimp only; omega) (by dsimp only; omega) (by dsimp only; rw [Int.mul_comm b u] at hcr; rw [Int.mul_comm d v] at hcr; rw [Int.mul_comm d v]; rw [Int.mul_comm b u]; exact hcr) (by dsimp only; omega)
      obtain ⟨X, hX⟩ : ∃ X, simpF f (d, u) (b, v) = X := ⟨_, rfl⟩
      rw [hX] at hrec
      rw [hX]
      have HREC := Lib.hid hrec
      have hq1 : wrap64 (q - 1) = q - 1 := by unfold wrap64; omega
      clear hrec hX hcr hm hk hu hv hqd hqd0 h9 h10 hu1 hu0 hud hv1 hv2 hv0
      go_enter Try.func50, Try.ntmps50
      go_wp2_with fail
      rw [← HW3.out]
      refine HREC.out.mono ?_
      rintro e w4 ⟨rfl, P4⟩
      have hr4 := P4.heap HK3.out (fun f => f)
      obtain ⟨w5, hw5⟩ : ∃ x, x = w4.alloc (.cells #[.int .i64 X.1, .int .i64 X.2] 23) := ⟨_, rfl⟩
      have P5 : Pure w4 w5 := by rw [hw5]; exact (Only.refl _ w4).alloc _
      have hr5 := P5.heap hr4 (fun f => f)
      have hn5 : w5.heap[w4.heap.size]? = some (.cells #[.int .i64 X.1, .int .i64 X.2] 23) := by rw [hw5]; exact World.alloc_heap_new w4 _
      obtain ⟨d0, d1, fr⟩ := read23 hr5
      obtain ⟨x0, x1, _⟩ := read23 hn5
      obtain ⟨_, c0, c1, hO⟩ := cell23 hr5 (wrap64 (wrap64 ((q - 1) * X.1) + X.2)) X.1
      have HZ := Lib.hid (((HP3.out.trans P4).trans P5).trans' hO (fun i hi e => by omega))
      have HW5 := Lib.hid hw5
      clear P4 P5 hr4 hr5 hn5 hO
      rw [hw5] at d0 d1 fr x0 x1 c0 c1
      clear hw5
      go_wp2_with fail
      refine bodyPost_ret (v := .agg #[.int .i64 (wrap64 (wrap64 ((q - 1) * X.1) + X.2)), .int .i64 X.1]) ?_ rfl ⟨rfl, by have := HZ.out; rw [HW5.out] at this; exact this⟩
      simp [results, Try.f50, go_sem, c0, c1]
    · rw [if_pos hle]
      clear HK3 HW3 HP3 HIH
      go_enter Try.func50, Try.ntmps50
      go_wp2_with fail
      refine bodyPost_ret (v := .agg #[.int .i64 q, .int .i64 1]) ?_ rfl ⟨rfl, (((Only.refl _ w).alloc _).alloc _).alloc _⟩
      have e0 := new_cell ((w.alloc (.cells #[.int .i64 a, .int .i64 b] 23)).alloc (.cells #[.int .i64 c, .int .i64 d] 23)) #[.int .i64 q, .int .i64 1] 23 (w.heap.size + 1 + 1) 0 _ (by simp) rfl
      have e1 := new_cell ((w.alloc (.cells #[.int .i64 a, .int .i64 b] 23)).alloc (.cells #[.int .i64 c, .int .i64 d] 23)) #[.int .i64 q, .int .i64 1] 23 (w.heap.size + 1 + 1) 1 _ (by simp) rfl
      simp [results, Try.f50, go_sem, e0, e1]
end Go.Proofs.Ythnjfekkngpbjaa

/- Simplest. -/
namespace Go.Proofs.Ythnjfekkngpbjaa
open Go.RowKit Go.Shelf

set_option maxHeartbeats 2000000 in
set_option maxRecDepth 100000 in
theorem Simplest_any (lo hi : Fr) (w : World) : Calls Try.prog 16 #[(Value.agg #[Value.int IntKind.i64 (Prod.fst (lo)), Value.int IntKind.i64 (Prod.snd (lo))]), (Value.agg #[Value.int IntKind.i64 (Prod.fst (hi)), Value.int IntKind.i64 (Prod.snd (hi))])] w fun e w' => e = .returned (.tuple #[(Value.agg #[Value.int IntKind.i64 (Prod.fst ((simplestR lo hi).1)), Value.int IntKind.i64 (Prod.snd ((simplestR lo hi).1))]), .int .i64 (simplestR lo hi).2]) ∧ Pure w w' := by
  obtain ⟨w3, hw3⟩ : ∃ x, x = ((w.alloc (.cells #[.int .i64 lo.1, .int .i64 lo.2] 23)).alloc (.cells #[.int .i64 hi.1, .int .i64 hi.2] 23)).alloc (.cells #[.int .i64 0, .int .i64 0] 23) := ⟨_, rfl⟩
  have hP3 : Pure w w3 := by rw [hw3]; exact lay_pure [_, _, _] w
  have k0 : w3.heap[w.heap.size]? = some (.cells #[.int .i64 lo.1, .int .i64 lo.2] 23) := by rw [hw3]; exact lay_row [_, _, _] w 0 _ rfl
  have k1 : w3.heap[w.heap.size + 1]? = some (.cells #[.int .i64 hi.1, .int .i64 hi.2] 23) := by rw [hw3]; exact lay_row [_, _, _] w 1 _ rfl
  have k2 : w3.heap[w.heap.size + 1 + 1]? = some (.cells #[.int .i64 0, .int .i64 0] 23) := by rw [hw3]; exact lay_row [_, _, _] w 2 _ rfl
  have HW := Lib.hid hw3; have HP := Lib.hid hP3; have K0 := Lib.hid k0; have K1 := Lib.hid k1; have K2 := Lib.hid k2
  clear hw3 hP3 k0 k1 k2
  have hend : ∀ W : World, Pure w3 W → ∀ x : Fr, ∃ W', W' = (W.setCell ⟨w.heap.size + 1 + 1, 0, none⟩ (.int .i64 x.1)).setCell ⟨w.heap.size + 1 + 1, 1, none⟩ (.int .i64 x.2) ∧ W'.cell? ⟨w.heap.size + 1 + 1, 0, none⟩ = some (.int .i64 x.1) ∧ W'.cell? ⟨w.heap.size + 1 + 1, 1, none⟩ = some (.int .i64 x.2) ∧ Pure w W' := fun W hW x => by
    obtain ⟨_, c0, c1, hO⟩ := cell23 (hW.heap K2.out (fun f => f)) x.1 x.2
    exact ⟨_, rfl, c0, c1, (HP.out.trans hW).trans' hO (fun i hi e => by omega)⟩
  have HEND := Lib.hid hend
  clear hend
  obtain ⟨b, hb⟩ : ∃ b, (!isFr lo || !isFr hi || lessB hi lo) = b := ⟨_, rfl⟩
  cases b
  · have hR : simplestR lo hi = (simpOf lo hi, 0) := by unfold simplestR; rw [hb]; rfl
    rw [hR]
    have h1 : isFr lo = true ∧ isFr hi = true ∧ lessB hi lo = false := by
      cases h1 : isFr lo <;> cases h2 : isFr hi <;> cases h3 : lessB hi lo <;> simp [h1, h2, h3] at hb ⊢
    obtain ⟨h1, h2, h3⟩ := h1
    obtain ⟨p1, p2, p3, p4⟩ := isFr_true h1
    obtain ⟨q1, q2, q3, q4⟩ := isFr_true h2
    have hcr : lo.1 * hi.2 ≤ hi.1 * lo.2 := by
      have h5 : lo.1 * hi.2 ≤ 1000000000 * 1000000 := Int.mul_le_mul (by omega) q2 (by omega) (by omega)
      have h6 : hi.1 * lo.2 ≤ 1000000000 * 1000000 := Int.mul_le_mul (by omega) p2 (by omega) (by omega)
      have h7 : 0 ≤ lo.1 * hi.2 := Int.mul_nonneg p3 (by omega)
      have h8 : 0 ≤ hi.1 * lo.2 := Int.mul_nonneg q3 (by omega)
      have h9 : wrap64 (lo.1 * hi.2) = lo.1 * hi.2 := by unfold wrap64; omega
      have h10 : wrap64 (hi.1 * lo.2) = hi.1 * lo.2 := by unfold wrap64; omega
      unfold lessB at h3
      rw [h9, h10] at h3
      simpa using h3
    have hS := fun W => simplest_any _ lo hi W p3 (by omega) p1 (by omega) q3 (by omega) q1 (by omega) hcr (Nat.le_refl _)
    have hf1 := fun W => isFr_any lo W
    have hf2 := fun W => isFr_any hi W
    have hl := fun W => less_any hi lo W
    rw [h1] at hf1; rw [h2] at hf2; rw [h3] at hl
    obtain ⟨X, hX⟩ : ∃ X, simpOf lo hi = X := ⟨_, rfl⟩
    have hX' : simpF (lo.2 + hi.2).toNat lo hi = X := hX
    simp only [hX'] at hS
    rw [hX]
    have HS := Lib.hid hS; have HF1 := Lib.hid hf1; have HF2 := Lib.hid hf2; have HL := Lib.hid hl
    clear hS hf1 hf2 hl hX hX' hR hb h1 h2 h3 p1 p2 p3 p4 q1 q2 q3 q4 hcr
    go_enter Try.func16, Try.ntmps16
    go_wp2_with fail
    rw [← HW.out]
    refine (HF1.out _).mono ?_
    rintro e w4 ⟨rfl, P4⟩
    obtain ⟨d0, d1, _⟩ := read23 (P4.heap K1.out (fun f => f))
    have HP4 := Lib.hid P4
    clear P4
    go_wp2_with fail
    refine (HF2.out _).mono ?_
    rintro e w5 ⟨rfl, P5⟩
    have HP5 := Lib.hid (HP4.out.trans P5)
    clear P5 d0 d1
    obtain ⟨d0, d1, _⟩ := read23 (HP5.out.heap K1.out (fun f => f))
    obtain ⟨e0, e1, _⟩ := read23 (HP5.out.heap K0.out (fun f => f))
    go_wp2_with fail
    refine (HL.out _).mono ?_
    rintro e w6 ⟨rfl, P6⟩
    have HP6 := Lib.hid (HP5.out.trans P6)
    clear P6 d0 d1 e0 e1
    obtain ⟨d0, d1, _⟩ := read23 (HP6.out.heap K1.out (fun f => f))
    obtain ⟨e0, e1, _⟩ := read23 (HP6.out.heap K0.out (fun f => f))
    go_wp2_with fail
    refine (HS.out _).mono ?_
    rintro e w7 ⟨rfl, P7⟩
    have HP7 := Lib.hid (HP6.out.trans P7)
    clear P7 d0 d1 e0 e1
    obtain ⟨a0, a1, af⟩ := read23 (HP7.out.heap K2.out (fun f => f))
    obtain ⟨W', hW', c0, c1, hP'⟩ := HEND.out w7 HP7.out X
    have HZ := Lib.hid (And.intro hW' hP')
    clear hP'
    go_wp2_with fail
    rw [← hW']
    refine bodyPost_ret (v := .tuple #[(Value.agg #[Value.int IntKind.i64 (Prod.fst (X)), Value.int IntKind.i64 (Prod.snd (X))]), .int .i64 0]) ?_ rfl ⟨rfl, HZ.out.2⟩
    simp [results, Try.f16, go_sem, c0, c1]
  · have hR : simplestR lo hi = ((0, 0), 3) := by unfold simplestR; rw [hb]; rfl
    rw [hR]
    have HBB := Lib.hid hb
    clear hb hR
    have hfin : ∀ W : World, Pure w3 W → ∃ W', W' = (W.setCell ⟨w.heap.size + 1 + 1, 0, none⟩ (.int .i64 0)).setCell ⟨w.heap.size + 1 + 1, 1, none⟩ (.int .i64 0) ∧ W'.cell? ⟨w.heap.size + 1 + 1, 0, none⟩ = some (.int .i64 0) ∧ W'.cell? ⟨w.heap.size + 1 + 1, 1, none⟩ = some (.int .i64 0) ∧ Pure w W' := fun W hW => HEND.out W hW (0, 0)
    have HFIN := Lib.hid hfin
    clear hfin HEND
    go_enter Try.func16, Try.ntmps16
    go_wp2_with fail
    rw [← HW.out]
    refine (isFr_any lo _).mono ?_
    rintro e w4 ⟨rfl, P4⟩
    have HP4 := Lib.hid P4
    clear P4
    rcases h1 : isFr lo
    · obtain ⟨a0, a1, af⟩ := read23 (HP4.out.heap K2.out (fun f => f))
      obtain ⟨W', hW', c0, c1, hP'⟩ := HFIN.out w4 HP4.out
      have HZ := Lib.hid hP'
      clear hP' h1
      go_wp2_with fail
      rw [← hW']
      refine bodyPost_ret (v := .tuple #[(Value.agg #[Value.int IntKind.i64 (Prod.fst (((0, 0) : Fr))), Value.int IntKind.i64 (Prod.snd (((0, 0) : Fr)))]), .int .i64 3]) ?_ rfl ⟨rfl, HZ.out⟩
      simp [results, Try.f16, go_sem, c0, c1]
    · obtain ⟨d0, d1, _⟩ := read23 (HP4.out.heap K1.out (fun f => f))
      have H1 := Lib.hid h1
      clear h1
      go_wp2_with fail
      refine (isFr_any hi _).mono ?_
      rintro e w5 ⟨rfl, P5⟩
      have HP5 := Lib.hid (HP4.out.trans P5)
      clear P5 d0 d1
      rcases h2 : isFr hi
      · obtain ⟨a0, a1, af⟩ := read23 (HP5.out.heap K2.out (fun f => f))
        obtain ⟨W', hW', c0, c1, hP'⟩ := HFIN.out w5 HP5.out
        have HZ := Lib.hid hP'
        clear hP' h2
        go_wp2_with fail
        rw [← hW']
        refine bodyPost_ret (v := .tuple #[(Value.agg #[Value.int IntKind.i64 (Prod.fst (((0, 0) : Fr))), Value.int IntKind.i64 (Prod.snd (((0, 0) : Fr)))]), .int .i64 3]) ?_ rfl ⟨rfl, HZ.out⟩
        simp [results, Try.f16, go_sem, c0, c1]
      · have h3 : lessB hi lo = true := by have := HBB.out; rw [H1.out, h2] at this; simpa using this
        have hl := fun W => less_any hi lo W
        rw [h3] at hl
        have HL := Lib.hid hl
        clear hl h2 h3
        obtain ⟨d0, d1, _⟩ := read23 (HP5.out.heap K1.out (fun f => f))
        obtain ⟨e0, e1, _⟩ := read23 (HP5.out.heap K0.out (fun f => f))
        go_wp2_with fail
        refine (HL.out _).mono ?_
        rintro e w6 ⟨rfl, P6⟩
        have HP6 := Lib.hid (HP5.out.trans P6)
        clear P6 d0 d1 e0 e1
        obtain ⟨a0, a1, af⟩ := read23 (HP6.out.heap K2.out (fun f => f))
        obtain ⟨W', hW', c0, c1, hP'⟩ := HFIN.out w6 HP6.out
        have HZ := Lib.hid hP'
        clear hP'
        go_wp2_with fail
        rw [← hW']
        refine bodyPost_ret (v := .tuple #[(Value.agg #[Value.int IntKind.i64 (Prod.fst (((0, 0) : Fr))), Value.int IntKind.i64 (Prod.snd (((0, 0) : Fr)))]), .int .i64 3]) ?_ rfl ⟨rfl, HZ.out⟩
        simp [results, Try.f16, go_sem, c0, c1]
end Go.Proofs.Ythnjfekkngpbjaa

