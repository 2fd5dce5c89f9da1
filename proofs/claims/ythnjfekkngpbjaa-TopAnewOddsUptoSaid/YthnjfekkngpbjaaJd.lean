/-
  Parts of the proof: Os, Ou, Ov, Ow, Pa, Pd, Pe, Force.
-/
import Derived.Test.YthnjfekkngpbjaaJc
import Derived.Laws.CopyRow
/- newDesk. -/
namespace Go.Proofs.Ythnjfekkngpbjaa
open Go.RowKit Go.Shelf

def deskK (k : Nat) : DeskS := ⟨(List.range 5).map fun (i : Nat) => if i < k then (0, 1) else (0, 0), (List.range 5).map fun (i : Nat) => if i < k then (1, 1) else (0, 0), fun _ => none⟩
theorem deskK_succ (k : Nat) (h : k < 5) : deskK (k + 1) = ⟨(deskK k).lo.set k (0, 1), (deskK k).hi.set k (1, 1), (deskK k).by_⟩ := by
  rcases (by omega : k = 0 ∨ k = 1 ∨ k = 2 ∨ k = 3 ∨ k = 4) with rfl | rfl | rfl | rfl | rfl <;> rfl
theorem desk0_K (m : Market) (h : 0 ≤ m.runners) : desk0 m = deskK m.runners.toNat := by
  have e : ∀ i : Nat, ((i : Int) < m.runners) = (i < m.runners.toNat) := fun i => by apply propext; omega
  unfold desk0 deskK
  simp only [e]
theorem frac_build (w : World) : (Instr.build 23 #[(1, .int .i64 1)]).run Try.prog w = .ok (.agg #[.int .i64 0, .int .i64 1]) w ∧ (Instr.build 23 #[(0, .int .i64 1), (1, .int .i64 1)]).run Try.prog w = .ok (.agg #[.int .i64 1, .int .i64 1]) w := by
  constructor <;> kernel_rfl
theorem side_build (r : Int) (l : Bool) (w : World) : (Instr.build 118 #[(0, .int .i64 r), (1, .bool l)]).run Try.prog w = .ok (.agg #[.int .i64 r, .bool l]) w := by kernel_rfl

theorem deskTo_succ (m : Market) (k : Nat) : deskTo m (k + 1) = deskStep (deskTo m k) k (qAt m.quotes k) := by unfold deskTo; rw [List.range_succ, List.foldl_append]; rfl
theorem rowR {w : World} {B : Nat} {x y : Value} {T : TypeId} (h : w.heap[B]? = some (.cells #[x, y] T)) : w.cell? ⟨B, 0, none⟩ = some x ∧ w.cell? ⟨B, 1, none⟩ = some y ∧ ∀ j, w.frozen? ⟨B, j, none⟩ = false := ⟨cell_of_row _ _ 0 _ _ _ h, cell_of_row _ _ 1 _ _ _ h, fun j => arr_frozen h j⟩
theorem twoR {W : World} {b c : Nat} {x y z t : Value} {T U : TypeId} (hb : W.heap[b]? = some (.cells #[x, y] T)) (hc : W.heap[c]? = some (.cells #[z, t] U)) (hne : b ≠ c) (u1 u2 v1 v2 : Value) :
    (((W.setCell ⟨b, 0, none⟩ u1).setCell ⟨b, 1, none⟩ u2).cell? ⟨c, 0, none⟩ = some z ∧ ((W.setCell ⟨b, 0, none⟩ u1).setCell ⟨b, 1, none⟩ u2).cell? ⟨c, 1, none⟩ = some t ∧ ∀ j, ((W.setCell ⟨b, 0, none⟩ u1).setCell ⟨b, 1, none⟩ u2).frozen? ⟨c, j, none⟩ = false) ∧
    ((((W.setCell ⟨b, 0, none⟩ u1).setCell ⟨b, 1, none⟩ u2).setCell ⟨c, 0, none⟩ v1).setCell ⟨c, 1, none⟩ v2).heap[b]? = some (.cells #[u1, u2] T) ∧
    ((((W.setCell ⟨b, 0, none⟩ u1).setCell ⟨b, 1, none⟩ u2).setCell ⟨c, 0, none⟩ v1).setCell ⟨c, 1, none⟩ v2).heap[c]? = some (.cells #[v1, v2] U) ∧
    Only (fun k => k = b ∨ k = c) W ((W.setCell ⟨b, 0, none⟩ u1).setCell ⟨b, 1, none⟩ u2) ∧
    Only (fun k => k = b ∨ k = c) W ((((W.setCell ⟨b, 0, none⟩ u1).setCell ⟨b, 1, none⟩ u2).setCell ⟨c, 0, none⟩ v1).setCell ⟨c, 1, none⟩ v2) := by
  have s1 := heap_setCell_same _ _ 0 _ _ u1 hb
  have s2 := heap_setCell_same _ _ 1 _ _ u2 s1
  have hO3 := ((Only.refl (fun k => k = b) W).setCell (p := ⟨b, 0, none⟩) (.inl rfl) u1).setCell (p := ⟨b, 1, none⟩) (.inl rfl) u2
  have hc3 := hO3.heap hc (fun e => hne e.symm)
  have s3 := heap_setCell_same _ _ 0 _ _ v1 hc3
  have s4 := heap_setCell_same _ _ 1 _ _ v2 s3
  have hO4 := ((Only.refl (fun k => k = c) ((W.setCell ⟨b, 0, none⟩ u1).setCell ⟨b, 1, none⟩ u2)).setCell (p := ⟨c, 0, none⟩) (.inl rfl) v1).setCell (p := ⟨c, 1, none⟩) (.inl rfl) v2
  exact ⟨rowR hc3, hO4.heap s2 hne, s4, hO3.mono (fun k _ e => .inl e), (hO3.mono (S' := fun k => k = b ∨ k = c) (fun k _ e => .inl e)).trans (hO4.mono (fun k _ e => .inr e))⟩

set_option maxHeartbeats 1000000 in
set_option maxRecDepth 100000 in
theorem newDesk_any (D : Nat → Prop) (v : Value) (m : Market) (w : World) (hq : Quotes D w v m.quotes) (hm : checkMarket m = 0) :
    Calls Try.prog 62 #[.agg #[.int .i64 m.runners, v]] w fun e w' => ∃ b mb, e = .returned (.pointer (some ⟨b, 0, none⟩)) ∧ w.heap.size ≤ b ∧ w.heap.size ≤ mb ∧ DeskAt w' b mb v m.runners (deskOf m) ∧ Pure w w' := by
  have hmk : ∀ w : World, (Instr.makeMap 114 none).run Try.prog w = .ok (.map (some w.heap.size)) (w.alloc (.map #[] 0)) := fun w => rfl
  obtain ⟨r1, r5, l12, hqs⟩ := market_zero hm
  obtain ⟨ad, cp, rfl⟩ := hq.form
  obtain ⟨n, hn⟩ : ∃ n, m.quotes.length = n := ⟨_, rfl⟩
  obtain ⟨R, hR⟩ : ∃ R : Nat, m.runners = R := ⟨m.runners.toNat, by omega⟩
  have hcells : ∀ W : World, Pure w W → ∀ k, k < n → ∃ bq oq, ad = some ⟨bq, oq, none⟩ ∧ bq < w.heap.size ∧ W.cell? ⟨bq, oq + k * 4, none⟩ = some (.int .i64 (qAt m.quotes k).runner) ∧ W.cell? ⟨bq, oq + k * 4 + 1, none⟩ = some (.int .i64 (qAt m.quotes k).num) ∧
      W.cell? ⟨bq, oq + k * 4 + 2, none⟩ = some (.int .i64 (qAt m.quotes k).den) ∧ W.cell? ⟨bq, oq + k * 4 + 3, none⟩ = some (.bool (qAt m.quotes k).lay) := fun W hW k hk => by
    obtain ⟨a1, len, c1, hform, hlen, _, _, hcell⟩ := hq
    cases hform
    obtain ⟨b, off, ha, _, x0, x1, x2, x3⟩ := hcell k (by omega)
    exact ⟨b, off, ha, World.block_lt_of_cell? _ _ x0, hW.cell x0 (fun f => f), hW.cell x1 (fun f => f), hW.cell x2 (fun f => f), hW.cell x3 (fun f => f)⟩
  have hds0 : desk0 m = deskK R := by rw [desk0_K m (by omega), hR]; rfl
  have hdsn : deskOf m = deskTo m n := by unfold deskOf; rw [hn]
  rw [hn, hR]
  rw [hdsn]
  rw [hn] at hqs l12
  rw [hR] at r1 r5 hqs
  have HQ := Lib.hid hcells; have HQS := Lib.hid hqs; have HD0 := Lib.hid hds0
  clear hcells hqs hds0 hdsn hq hm
  obtain ⟨w3, hw3⟩ : ∃ x, x = (((w.alloc (Obj.cells #[.int .i64 R, .slice ad n cp] 29)).alloc (Obj.map #[] 0)).alloc (Obj.cells #[.int .i64 R, .slice ad n cp, .int .i64 0, .int .i64 0, .int .i64 0, .int .i64 0, .int .i64 0, .int .i64 0, .int .i64 0, .int .i64 0, .int .i64 0, .int .i64 0, .int .i64 0, .int .i64 0, .int .i64 0, .int .i64 0, .int .i64 0, .int .i64 0, .int .i64 0, .int .i64 0, .int .i64 0, .int .i64 0, .map (some (w.heap.size + 1))] 116)) := ⟨_, rfl⟩
  have hP3 : Pure w w3 := by rw [hw3]; exact lay_pure [_, _, _] w
  have k0 : w3.heap[w.heap.size]? = some (.cells #[.int .i64 R, .slice ad n cp] 29) := by rw [hw3]; exact lay_row [_, _, _] w 0 _ rfl
  have hmap : MapF sideV w3 (w.heap.size + 1) (fun _ => none) := by
    have h := MapF.made sideV (w.alloc (Obj.cells #[.int .i64 R, .slice ad n cp] 29))
    rw [World.size_alloc] at h
    rw [hw3]
    exact h.keep ((Only.refl (fun _ => False) _).alloc _) (fun f => f)
  have hdesk : DeskAt w3 (w.heap.size + 1 + 1) (w.heap.size + 1) (.slice ad n cp) R (deskK 0) :=
    ⟨rfl, rfl, by rw [hw3]; exact lay_row [_, _, _] w 2 _ rfl, hmap⟩
  have HW := Lib.hid hw3; have HP := Lib.hid hP3; have K0 := Lib.hid k0; have HDK := Lib.hid hdesk
  have c0 : w3.cell? ⟨w.heap.size, 0, none⟩ = some (.int .i64 R) := cell_of_row _ _ 0 _ _ _ k0
  rw [hw3] at c0
  clear hw3 hP3 k0 hmap hdesk
  go_enter Try.func62, Try.ntmps62
  go_wp2_with fail
  rw [← HW.out]
  obtain ⟨b, hb⟩ : ∃ b, b = w.heap.size + 1 + 1 := ⟨_, rfl⟩
  obtain ⟨mb, hmb⟩ : ∃ b, b = w.heap.size + 1 := ⟨_, rfl⟩
  rw [← hmb] at HDK ⊢
  rw [hmb, ← hb] at HDK ⊢
  rw [← hmb] at HDK ⊢
  have HB := Lib.hid hb; have HMB := Lib.hid hmb
  clear hb hmb c0
  go_loopw [15] (fun i wr => ∃ k : Nat, k ≤ R ∧ i = .int .i64 k ∧ Hid (DeskAt wr b mb (.slice ad n cp) R (deskK k)) ∧ Hid (Only (fun q => q = b ∨ q = mb) w3 wr)) (fun i _ => R - (intOf i).toNat)
  case atStart => exact ⟨0, Nat.zero_le _, rfl, HDK, Lib.hid (Only.refl _ _)⟩
  case round =>
    clear HDK
    obtain ⟨k, hk, rfl, hd, hO⟩ := hrel
    by_cases hlt : k < R
    · have hk5 : k < 5 := by omega
      have f0 := fun W => (frac_build W).1
      have f1 := fun W => (frac_build W).2
      obtain ⟨x0, x1⟩ := hd.out.lo k hk5
      have hL := hd.out.setLo k hk5 (0, 1)
      obtain ⟨y0, y1⟩ := hL.hi k hk5
      have hH := hL.setHi k hk5 (1, 1)
      have zf := hd.out.frozen
      have yf := hL.frozen
      have hO1 := ((hO.out.setCell (p := ⟨b, 2 + k * 2, none⟩) (.inl (.inl rfl)) (.int .i64 0)).setCell (p := ⟨b, 2 + k * 2 + 1, none⟩) (.inl (.inl rfl)) (.int .i64 1))
      have hO2 := ((hO1.setCell (p := ⟨b, 12 + k * 2, none⟩) (.inl (.inl rfl)) (.int .i64 1)).setCell (p := ⟨b, 12 + k * 2 + 1, none⟩) (.inl (.inl rfl)) (.int .i64 1))
      obtain ⟨G, hG⟩ : ∃ G : World → Prop, ∀ x, G x ↔ Only (fun q => q = b ∨ q = mb) w3 x := ⟨_, fun _ => Iff.rfl⟩
      haveI hInh : Inhabited (InG G) := ⟨⟨wr, (hG wr).2 hO.out⟩⟩
      have MKG := Lib.hid (fun x (h : Only (fun q => q = b ∨ q = mb) w3 x) => (hG x).2 h)
      have HH := Lib.hid hH; have HO1 := Lib.hid hO1; have HO2 := Lib.hid hO2
      clear hL hH hO1 hO2 hG hd
      go_wp2_with fail
      refine any_start G (by kernel_rfl) ?_
      refine any_take [0, 1, 2, 3, 4, 5, 6, 7, 8, 10, 11] (by kernel_rfl) (MKG.out _ hO.out.drew) (fun d _ _ _ _ h => by cases d <;> exact h) 3 (by kernel_rfl) ?_
      simp only [picks, List.drop_succ_cons, List.drop_zero, List.take_succ_cons, List.take_zero, List.cons_append, List.nil_append]
      repeat (go_big_quiet_step (fail))
      refine wpQuiet_nil ?_
      refine any_force (i := 9) (by kernel_rfl) rfl ?_
      go_wp2_with fail
      refine ⟨MKG.out _ HO1.out.drew, ?_⟩
      refine any_take [12] (by kernel_rfl) (MKG.out _ HO1.out.drew) (fun d _ _ _ _ h => by cases d <;> exact h) 1 (by kernel_rfl) ?_
      simp only [picks, List.drop_succ_cons, List.drop_zero, List.take_succ_cons, List.take_zero, List.cons_append, List.nil_append]
      repeat (go_big_quiet_step (fail))
      refine wpQuiet_nil ?_
      refine any_force (i := 13) (by kernel_rfl) rfl ?_
      go_wp2_with fail
      refine ⟨MKG.out _ HO2.out.drew, any_done (by kernel_rfl) ?_⟩
      go_wp2_with fail
      go_roundw
      case rel => exact ⟨k + 1, by omega, by go_num, Lib.hid (by rw [deskK_succ k hk5]; exact HH.out.pure (Only.refl _ _).drew), Lib.hid HO2.out.drew⟩
      case measure => simp [intOf]; omega
    · obtain rfl : R = k := by omega
      have k0 := hO.out.heap K0.out (by have := HB.out; have := HMB.out; omega)
      have c1 : wr.cell? ⟨w.heap.size, 1, none⟩ = some (.slice ad n cp) := cell_of_row _ _ 1 _ _ _ k0
      have hd2 := Lib.hid (show DeskAt wr b mb (.slice ad n cp) R (deskTo m 0) from by have := hd.out; rw [← HD0.out] at this; exact this)
      clear k0 hd
      go_wp2_with fail
      go_loopw [34] (fun i wr => ∃ k : Nat, k ≤ n ∧ i = .int .i64 k ∧ Hid (DeskAt wr b mb (.slice ad n cp) R (deskTo m k)) ∧ Hid (Only (fun q => q = b ∨ q = mb) w3 wr)) (fun i _ => n - (intOf i).toNat)
      case atStart => exact ⟨0, Nat.zero_le _, rfl, hd2, hO⟩
      case round =>
        clear hd2 hO c1
        obtain ⟨k, hk, rfl, hd, hO⟩ := hrel
        by_cases hlt : k < n
        · have hPw : Pure w wr := HP.out.trans' hO.out (fun i hi e => by have := HB.out; have := HMB.out; omega)
          obtain ⟨bq, oq, rfl, _, x0, x1, x2, x3⟩ := HQ.out wr hPw k hlt
          obtain ⟨p1, p2, p3, p4, p5, p6⟩ := HQS.out k hlt
          have hstep := deskTo_succ m k
          obtain ⟨q, hq⟩ : ∃ q, qAt m.quotes k = q := ⟨_, rfl⟩
          obtain ⟨d, hd'⟩ : ∃ d, deskTo m k = d := ⟨_, rfl⟩
          rw [hq] at x0 x1 x2 x3 p1 p2 p3 p4 p5 p6 hstep
          rw [hd'] at hd hstep
          obtain ⟨qr, qn, qd, ql⟩ := q
          dsimp only at x0 x1 x2 x3 p1 p2 p3 p4 p5 p6
          obtain ⟨i, rfl⟩ : ∃ i : Nat, qr = i := ⟨qr.toNat, by omega⟩
          have hi5 : i < 5 := by omega
          obtain ⟨S, hS⟩ : ∃ S, wrap64 (qd + qn) = S := ⟨_, rfl⟩
          have hS0 : S ≠ 0 := by rw [← hS]; unfold wrap64; omega
          have hfr := fun W => frac_any qd S W hS0
          obtain ⟨x, hx⟩ : ∃ x, frac qd S = x := ⟨_, rfl⟩
          rw [hx] at hfr
          have hxo : xOf ⟨(i : Int), qn, qd, ql⟩ = x := by unfold xOf; dsimp only; rw [hS, hx]
          obtain ⟨w5, hw5⟩ : ∃ x, x = wr.alloc (.cells #[.int .i64 (i : Int), .int .i64 qn, .int .i64 qd, .bool ql] 83) := ⟨_, rfl⟩
          have P5 : Pure wr w5 := by rw [hw5]; exact (Only.refl _ wr).alloc _
          have r6 : w5.heap[wr.heap.size]? = some (.cells #[.int .i64 (i : Int), .int .i64 qn, .int .i64 qd, .bool ql] 83) := by rw [hw5]; exact World.alloc_heap_new wr _
          have hs5 : wr.heap.size < w5.heap.size := lt_of_block r6
          obtain ⟨B6, hB6⟩ : ∃ b, b = wr.heap.size := ⟨_, rfl⟩
          rw [← hB6] at r6 hs5
          have HW5 := Lib.hid hw5; have HP5 := Lib.hid P5; have R6 := Lib.hid r6; have HFR := Lib.hid hfr; have HST := Lib.hid hstep; have HXO := Lib.hid hxo; have HPW := Lib.hid hPw; have HB6 := Lib.hid hB6; have HS5 := Lib.hid hs5
          have HDT := Lib.hid hd'; have HQK := Lib.hid hq
          clear hw5 P5 r6 hfr hstep hx hxo hS0 hPw hB6 hs5 hd' hq p1 p2 p3 p4 p5 p6
          have hSS := hS
          go_upto_region 10 with fail
          rw [← HW5.out, ← HB6.out]
          go_cut [7, 8] from 39 to 51 (fun s7 s8 wx => ∃ B7 B8 : Nat, s7 = .pointer (some ⟨B7, 0, none⟩) ∧ s8 = .pointer (some ⟨B8, 0, none⟩) ∧ Hid (wx.heap[B7]? = some (.cells #[.int .i64 x.1, .int .i64 x.2] 23)) ∧ Hid (wx.heap[B8]? = some (.cells #[.int .i64 (i : Int), .bool ql] 118)) ∧ Hid (Pure w5 wx) ∧ Hid (w5.heap.size ≤ B7) ∧ Hid (w5.heap.size ≤ B8))
          case first =>
            obtain ⟨G, hG⟩ : ∃ G : World → Prop, ∀ x, G x ↔ Pure w5 x := ⟨_, fun _ => Iff.rfl⟩
            have g0 : ∀ g' : InG G, g'.world.cell? ⟨B6, 0, none⟩ = some (.int .i64 (i : Int)) := fun g' => cell_of_row _ _ 0 _ _ _ (((hG _).1 g'.holds).heap R6.out (fun f => f))
            have g1 : ∀ g' : InG G, g'.world.cell? ⟨B6, 1, none⟩ = some (.int .i64 qn) := fun g' => cell_of_row _ _ 1 _ _ _ (((hG _).1 g'.holds).heap R6.out (fun f => f))
            have g2 : ∀ g' : InG G, g'.world.cell? ⟨B6, 2, none⟩ = some (.int .i64 qd) := fun g' => cell_of_row _ _ 2 _ _ _ (((hG _).1 g'.holds).heap R6.out (fun f => f))
            have g3 : ∀ g' : InG G, g'.world.cell? ⟨B6, 3, none⟩ = some (.bool ql) := fun g' => cell_of_row _ _ 3 _ _ _ (((hG _).1 g'.holds).heap R6.out (fun f => f))
            have gb := fun W => side_build (i : Int) ql W
            haveI hInh : Inhabited (InG G) := ⟨⟨w5, (hG w5).2 (Only.refl _ _)⟩⟩
            have MKG := Lib.hid (fun x (h : Pure w5 x) => (hG x).2 h)
            clear hG
            go_wp2_with fail
            refine any_start G (by kernel_rfl) ?_
            refine any_take [0, 1, 2, 3, 4, 5, 6, 8, 9, 10, 11, 12] (by kernel_rfl) (MKG.out _ (Only.refl _ _).drew) (fun d _ _ _ _ h => by cases d <;> exact h) 5 (by kernel_rfl) ?_
            simp only [picks, List.drop_succ_cons, List.drop_zero, List.take_succ_cons, List.take_zero, List.cons_append, List.nil_append]
            repeat (go_big_quiet_step (fail))
            refine wpQuiet_nil ?_
            obtain ⟨Wz, hWz⟩ : ∃ x, x = w5.drew := ⟨_, rfl⟩
            have PWz : Pure w5 Wz := by rw [hWz]; exact (Only.refl _ _).drew
            rw [← hWz]
            clear hWz g0 g1 g2 g3 gb
            refine any_many (is := [7, 13, 14]) (by kernel_rfl) (by decide) ?_
            intro j hj
            rcases (by simpa using hj : j = 7 ∨ j = 13 ∨ j = 14) with rfl | rfl | rfl
            · refine ⟨_, rfl, ?_⟩
              go_wp2_with fail
              refine (HFR.out _).mono ?_
              rintro e W0_7 ⟨rfl, QW0_7⟩
              have PW0_7 := PWz.trans QW0_7
              go_wp2_with fail
              refine ⟨MKG.out _ PW0_7, ?_⟩
              refine any_many (is := [13, 14]) (by kernel_rfl) (by decide) ?_
              intro j hj
              rcases (by simpa using hj : j = 13 ∨ j = 14) with rfl | rfl
              · refine ⟨_, rfl, ?_⟩
                obtain ⟨W1_13, hW1_13⟩ : ∃ x, x = W0_7.alloc (.cells #[.int .i64 0, .int .i64 0] 23) := ⟨_, rfl⟩
                have QW1_13 : Pure W0_7 W1_13 := by rw [hW1_13]; exact (Only.refl _ _).alloc _
                have PW1_13 := PW0_7.trans QW1_13
                have rW1_13 : W1_13.heap[W0_7.heap.size]? = some (.cells #[.int .i64 0, .int .i64 0] 23) := by rw [hW1_13]; exact World.alloc_heap_new _ _
                go_wp2_with fail
                rw [← hW1_13]
                clear hW1_13
                refine ⟨MKG.out _ PW1_13, ?_⟩
                refine any_many (is := [14]) (by kernel_rfl) (by decide) ?_
                intro j hj
                obtain rfl : j = 14 := by simpa using hj
                refine ⟨_, rfl, ?_⟩
                obtain ⟨W2_14, hW2_14⟩ : ∃ x, x = W1_13.alloc (.cells #[.int .i64 0, .bool false] 118) := ⟨_, rfl⟩
                have QW2_14 : Pure W1_13 W2_14 := by rw [hW2_14]; exact (Only.refl _ _).alloc _
                have PW2_14 := PW1_13.trans QW2_14
                have rW1_13W2_14 := QW2_14.heap rW1_13 (fun f => f)
                have rW2_14 : W2_14.heap[W1_13.heap.size]? = some (.cells #[.int .i64 0, .bool false] 118) := by rw [hW2_14]; exact World.alloc_heap_new _ _
                go_wp2_with fail
                rw [← hW2_14]
                clear hW2_14
                refine ⟨MKG.out _ PW2_14, ?_⟩
                have hne : W0_7.heap.size ≠ W1_13.heap.size := by
                  intro e; have h1 := rW1_13W2_14; have h2 := rW2_14; rw [e] at h1; rw [h1] at h2; cases h2
                obtain ⟨d0, d1, df⟩ := rowR rW1_13W2_14
                obtain ⟨⟨i0, i1, jf⟩, s7, s8, hM, hOO⟩ := twoR rW1_13W2_14 rW2_14 hne (.int .i64 x.1) (.int .i64 x.2) (.int .i64 (i : Int)) (.bool ql)
                have hs7 : w5.heap.size ≤ W0_7.heap.size := PW0_7.size
                have hs8 : w5.heap.size ≤ W1_13.heap.size := PW1_13.size
                refine any_force (i := 15) (by kernel_rfl) rfl ?_
                go_wp2_with fail
                refine ⟨MKG.out _ (PW2_14.trans' hM (fun i hi e => by omega)), ?_⟩
                refine any_force (i := 16) (by kernel_rfl) rfl ?_
                go_wp2_with fail
                refine ⟨MKG.out _ (PW2_14.trans' hOO (fun i hi e => by omega)), any_done (by kernel_rfl) ?_⟩
                have hend := Lib.hid (PW2_14.trans' hOO (fun i hi e => by omega))
                have hs7 := Lib.hid hs7; have hs8 := Lib.hid hs8; have s7 := Lib.hid s7; have s8 := Lib.hid s8
                go_wp2_with fail
                go_meet
                exact ⟨_, _, rfl, rfl, s7, s8, hend, hs7, hs8⟩
              · refine ⟨_, rfl, ?_⟩
                obtain ⟨W1_14, hW1_14⟩ : ∃ x, x = W0_7.alloc (.cells #[.int .i64 0, .bool false] 118) := ⟨_, rfl⟩
                have QW1_14 : Pure W0_7 W1_14 := by rw [hW1_14]; exact (Only.refl _ _).alloc _
                have PW1_14 := PW0_7.trans QW1_14
                have rW1_14 : W1_14.heap[W0_7.heap.size]? = some (.cells #[.int .i64 0, .bool false] 118) := by rw [hW1_14]; exact World.alloc_heap_new _ _
                go_wp2_with fail
                rw [← hW1_14]
                clear hW1_14
                refine ⟨MKG.out _ PW1_14, ?_⟩
                refine any_many (is := [13]) (by kernel_rfl) (by decide) ?_
                intro j hj
                obtain rfl : j = 13 := by simpa using hj
                refine ⟨_, rfl, ?_⟩
                obtain ⟨W2_13, hW2_13⟩ : ∃ x, x = W1_14.alloc (.cells #[.int .i64 0, .int .i64 0] 23) := ⟨_, rfl⟩
                have QW2_13 : Pure W1_14 W2_13 := by rw [hW2_13]; exact (Only.refl _ _).alloc _
                have PW2_13 := PW1_14.trans QW2_13
                have rW1_14W2_13 := QW2_13.heap rW1_14 (fun f => f)
                have rW2_13 : W2_13.heap[W1_14.heap.size]? = some (.cells #[.int .i64 0, .int .i64 0] 23) := by rw [hW2_13]; exact World.alloc_heap_new _ _
                go_wp2_with fail
                rw [← hW2_13]
                clear hW2_13
                refine ⟨MKG.out _ PW2_13, ?_⟩
                have hne : W1_14.heap.size ≠ W0_7.heap.size := by
                  intro e; have h1 := rW2_13; have h2 := rW1_14W2_13; rw [e] at h1; rw [h1] at h2; cases h2
                obtain ⟨d0, d1, df⟩ := rowR rW2_13
                obtain ⟨⟨i0, i1, jf⟩, s7, s8, hM, hOO⟩ := twoR rW2_13 rW1_14W2_13 hne (.int .i64 x.1) (.int .i64 x.2) (.int .i64 (i : Int)) (.bool ql)
                have hs7 : w5.heap.size ≤ W1_14.heap.size := PW1_14.size
                have hs8 : w5.heap.size ≤ W0_7.heap.size := PW0_7.size
                refine any_force (i := 15) (by kernel_rfl) rfl ?_
                go_wp2_with fail
                refine ⟨MKG.out _ (PW2_13.trans' hM (fun i hi e => by omega)), ?_⟩
                refine any_force (i := 16) (by kernel_rfl) rfl ?_
                go_wp2_with fail
                refine ⟨MKG.out _ (PW2_13.trans' hOO (fun i hi e => by omega)), any_done (by kernel_rfl) ?_⟩
                have hend := Lib.hid (PW2_13.trans' hOO (fun i hi e => by omega))
                have hs7 := Lib.hid hs7; have hs8 := Lib.hid hs8; have s7 := Lib.hid s7; have s8 := Lib.hid s8
                go_wp2_with fail
                go_meet
                exact ⟨_, _, rfl, rfl, s7, s8, hend, hs7, hs8⟩
            · refine ⟨_, rfl, ?_⟩
              obtain ⟨W0_13, hW0_13⟩ : ∃ x, x = Wz.alloc (.cells #[.int .i64 0, .int .i64 0] 23) := ⟨_, rfl⟩
              have QW0_13 : Pure Wz W0_13 := by rw [hW0_13]; exact (Only.refl _ _).alloc _
              have PW0_13 := PWz.trans QW0_13
              have rW0_13 : W0_13.heap[Wz.heap.size]? = some (.cells #[.int .i64 0, .int .i64 0] 23) := by rw [hW0_13]; exact World.alloc_heap_new _ _
              go_wp2_with fail
              rw [← hW0_13]
              clear hW0_13
              refine ⟨MKG.out _ PW0_13, ?_⟩
              refine any_many (is := [7, 14]) (by kernel_rfl) (by decide) ?_
              intro j hj
              rcases (by simpa using hj : j = 7 ∨ j = 14) with rfl | rfl
              · refine ⟨_, rfl, ?_⟩
                go_wp2_with fail
                refine (HFR.out _).mono ?_
                rintro e W1_7 ⟨rfl, QW1_7⟩
                have PW1_7 := PW0_13.trans QW1_7
                have rW0_13W1_7 := QW1_7.heap rW0_13 (fun f => f)
                go_wp2_with fail
                refine ⟨MKG.out _ PW1_7, ?_⟩
                refine any_many (is := [14]) (by kernel_rfl) (by decide) ?_
                intro j hj
                obtain rfl : j = 14 := by simpa using hj
                refine ⟨_, rfl, ?_⟩
                obtain ⟨W2_14, hW2_14⟩ : ∃ x, x = W1_7.alloc (.cells #[.int .i64 0, .bool false] 118) := ⟨_, rfl⟩
                have QW2_14 : Pure W1_7 W2_14 := by rw [hW2_14]; exact (Only.refl _ _).alloc _
                have PW2_14 := PW1_7.trans QW2_14
                have rW0_13W1_7W2_14 := QW2_14.heap rW0_13W1_7 (fun f => f)
                have rW2_14 : W2_14.heap[W1_7.heap.size]? = some (.cells #[.int .i64 0, .bool false] 118) := by rw [hW2_14]; exact World.alloc_heap_new _ _
                go_wp2_with fail
                rw [← hW2_14]
                clear hW2_14
                refine ⟨MKG.out _ PW2_14, ?_⟩
                have hne : Wz.heap.size ≠ W1_7.heap.size := by
                  intro e; have h1 := rW0_13W1_7W2_14; have h2 := rW2_14; rw [e] at h1; rw [h1] at h2; cases h2
                obtain ⟨d0, d1, df⟩ := rowR rW0_13W1_7W2_14
                obtain ⟨⟨i0, i1, jf⟩, s7, s8, hM, hOO⟩ := twoR rW0_13W1_7W2_14 rW2_14 hne (.int .i64 x.1) (.int .i64 x.2) (.int .i64 (i : Int)) (.bool ql)
                have hs7 : w5.heap.size ≤ Wz.heap.size := PWz.size
                have hs8 : w5.heap.size ≤ W1_7.heap.size := PW1_7.size
                refine any_force (i := 15) (by kernel_rfl) rfl ?_
                go_wp2_with fail
                refine ⟨MKG.out _ (PW2_14.trans' hM (fun i hi e => by omega)), ?_⟩
                refine any_force (i := 16) (by kernel_rfl) rfl ?_
                go_wp2_with fail
                refine ⟨MKG.out _ (PW2_14.trans' hOO (fun i hi e => by omega)), any_done (by kernel_rfl) ?_⟩
                have hend := Lib.hid (PW2_14.trans' hOO (fun i hi e => by omega))
                have hs7 := Lib.hid hs7; have hs8 := Lib.hid hs8; have s7 := Lib.hid s7; have s8 := Lib.hid s8
                go_wp2_with fail
                go_meet
                exact ⟨_, _, rfl, rfl, s7, s8, hend, hs7, hs8⟩
              · refine ⟨_, rfl, ?_⟩
                obtain ⟨W1_14, hW1_14⟩ : ∃ x, x = W0_13.alloc (.cells #[.int .i64 0, .bool false] 118) := ⟨_, rfl⟩
                have QW1_14 : Pure W0_13 W1_14 := by rw [hW1_14]; exact (Only.refl _ _).alloc _
                have PW1_14 := PW0_13.trans QW1_14
                have rW0_13W1_14 := QW1_14.heap rW0_13 (fun f => f)
                have rW1_14 : W1_14.heap[W0_13.heap.size]? = some (.cells #[.int .i64 0, .bool false] 118) := by rw [hW1_14]; exact World.alloc_heap_new _ _
                go_wp2_with fail
                rw [← hW1_14]
                clear hW1_14
                refine ⟨MKG.out _ PW1_14, ?_⟩
                refine any_many (is := [7]) (by kernel_rfl) (by decide) ?_
                intro j hj
                obtain rfl : j = 7 := by simpa using hj
                refine ⟨_, rfl, ?_⟩
                go_wp2_with fail
                refine (HFR.out _).mono ?_
                rintro e W2_7 ⟨rfl, QW2_7⟩
                have PW2_7 := PW1_14.trans QW2_7
                have rW0_13W1_14W2_7 := QW2_7.heap rW0_13W1_14 (fun f => f)
                have rW1_14W2_7 := QW2_7.heap rW1_14 (fun f => f)
                go_wp2_with fail
                refine ⟨MKG.out _ PW2_7, ?_⟩
                have hne : Wz.heap.size ≠ W0_13.heap.size := by
                  intro e; have h1 := rW0_13W1_14W2_7; have h2 := rW1_14W2_7; rw [e] at h1; rw [h1] at h2; cases h2
                obtain ⟨d0, d1, df⟩ := rowR rW0_13W1_14W2_7
                obtain ⟨⟨i0, i1, jf⟩, s7, s8, hM, hOO⟩ := twoR rW0_13W1_14W2_7 rW1_14W2_7 hne (.int .i64 x.1) (.int .i64 x.2) (.int .i64 (i : Int)) (.bool ql)
                have hs7 : w5.heap.size ≤ Wz.heap.size := PWz.size
                have hs8 : w5.heap.size ≤ W0_13.heap.size := PW0_13.size
                refine any_force (i := 15) (by kernel_rfl) rfl ?_
                go_wp2_with fail
                refine ⟨MKG.out _ (PW2_7.trans' hM (fun i hi e => by omega)), ?_⟩
                refine any_force (i := 16) (by kernel_rfl) rfl ?_
                go_wp2_with fail
                refine ⟨MKG.out _ (PW2_7.trans' hOO (fun i hi e => by omega)), any_done (by kernel_rfl) ?_⟩
                have hend := Lib.hid (PW2_7.trans' hOO (fun i hi e => by omega))
                have hs7 := Lib.hid hs7; have hs8 := Lib.hid hs8; have s7 := Lib.hid s7; have s8 := Lib.hid s8
                go_wp2_with fail
                go_meet
                exact ⟨_, _, rfl, rfl, s7, s8, hend, hs7, hs8⟩
            · refine ⟨_, rfl, ?_⟩
              obtain ⟨W0_14, hW0_14⟩ : ∃ x, x = Wz.alloc (.cells #[.int .i64 0, .bool false] 118) := ⟨_, rfl⟩
              have QW0_14 : Pure Wz W0_14 := by rw [hW0_14]; exact (Only.refl _ _).alloc _
              have PW0_14 := PWz.trans QW0_14
              have rW0_14 : W0_14.heap[Wz.heap.size]? = some (.cells #[.int .i64 0, .bool false] 118) := by rw [hW0_14]; exact World.alloc_heap_new _ _
              go_wp2_with fail
              rw [← hW0_14]
              clear hW0_14
              refine ⟨MKG.out _ PW0_14, ?_⟩
              refine any_many (is := [7, 13]) (by kernel_rfl) (by decide) ?_
              intro j hj
              rcases (by simpa using hj : j = 7 ∨ j = 13) with rfl | rfl
              · refine ⟨_, rfl, ?_⟩
                go_wp2_with fail
                refine (HFR.out _).mono ?_
                rintro e W1_7 ⟨rfl, QW1_7⟩
                have PW1_7 := PW0_14.trans QW1_7
                have rW0_14W1_7 := QW1_7.heap rW0_14 (fun f => f)
                go_wp2_with fail
                refine ⟨MKG.out _ PW1_7, ?_⟩
                refine any_many (is := [13]) (by kernel_rfl) (by decide) ?_
                intro j hj
                obtain rfl : j = 13 := by simpa using hj
                refine ⟨_, rfl, ?_⟩
                obtain ⟨W2_13, hW2_13⟩ : ∃ x, x = W1_7.alloc (.cells #[.int .i64 0, .int .i64 0] 23) := ⟨_, rfl⟩
                have QW2_13 : Pure W1_7 W2_13 := by rw [hW2_13]; exact (Only.refl _ _).alloc _
                have PW2_13 := PW1_7.trans QW2_13
                have rW0_14W1_7W2_13 := QW2_13.heap rW0_14W1_7 (fun f => f)
                have rW2_13 : W2_13.heap[W1_7.heap.size]? = some (.cells #[.int .i64 0, .int .i64 0] 23) := by rw [hW2_13]; exact World.alloc_heap_new _ _
                go_wp2_with fail
                rw [← hW2_13]
                clear hW2_13
                refine ⟨MKG.out _ PW2_13, ?_⟩
                have hne : W1_7.heap.size ≠ Wz.heap.size := by
                  intro e; have h1 := rW2_13; have h2 := rW0_14W1_7W2_13; rw [e] at h1; rw [h1] at h2; cases h2
                obtain ⟨d0, d1, df⟩ := rowR rW2_13
                obtain ⟨⟨i0, i1, jf⟩, s7, s8, hM, hOO⟩ := twoR rW2_13 rW0_14W1_7W2_13 hne (.int .i64 x.1) (.int .i64 x.2) (.int .i64 (i : Int)) (.bool ql)
                have hs7 : w5.heap.size ≤ W1_7.heap.size := PW1_7.size
                have hs8 : w5.heap.size ≤ Wz.heap.size := PWz.size
                refine any_force (i := 15) (by kernel_rfl) rfl ?_
                go_wp2_with fail
                refine ⟨MKG.out _ (PW2_13.trans' hM (fun i hi e => by omega)), ?_⟩
                refine any_force (i := 16) (by kernel_rfl) rfl ?_
                go_wp2_with fail
                refine ⟨MKG.out _ (PW2_13.trans' hOO (fun i hi e => by omega)), any_done (by kernel_rfl) ?_⟩
                have hend := Lib.hid (PW2_13.trans' hOO (fun i hi e => by omega))
                have hs7 := Lib.hid hs7; have hs8 := Lib.hid hs8; have s7 := Lib.hid s7; have s8 := Lib.hid s8
                go_wp2_with fail
                go_meet
                exact ⟨_, _, rfl, rfl, s7, s8, hend, hs7, hs8⟩
              · refine ⟨_, rfl, ?_⟩
                obtain ⟨W1_13, hW1_13⟩ : ∃ x, x = W0_14.alloc (.cells #[.int .i64 0, .int .i64 0] 23) := ⟨_, rfl⟩
                have QW1_13 : Pure W0_14 W1_13 := by rw [hW1_13]; exact (Only.refl _ _).alloc _
                have PW1_13 := PW0_14.trans QW1_13
                have rW0_14W1_13 := QW1_13.heap rW0_14 (fun f => f)
                have rW1_13 : W1_13.heap[W0_14.heap.size]? = some (.cells #[.int .i64 0, .int .i64 0] 23) := by rw [hW1_13]; exact World.alloc_heap_new _ _
                go_wp2_with fail
                rw [← hW1_13]
                clear hW1_13
                refine ⟨MKG.out _ PW1_13, ?_⟩
                refine any_many (is := [7]) (by kernel_rfl) (by decide) ?_
                intro j hj
                obtain rfl : j = 7 := by simpa using hj
                refine ⟨_, rfl, ?_⟩
                go_wp2_with fail
                refine (HFR.out _).mono ?_
                rintro e W2_7 ⟨rfl, QW2_7⟩
                have PW2_7 := PW1_13.trans QW2_7
                have rW0_14W1_13W2_7 := QW2_7.heap rW0_14W1_13 (fun f => f)
                have rW1_13W2_7 := QW2_7.heap rW1_13 (fun f => f)
                go_wp2_with fail
                refine ⟨MKG.out _ PW2_7, ?_⟩
                have hne : W0_14.heap.size ≠ Wz.heap.size := by
                  intro e; have h1 := rW1_13W2_7; have h2 := rW0_14W1_13W2_7; rw [e] at h1; rw [h1] at h2; cases h2
                obtain ⟨d0, d1, df⟩ := rowR rW1_13W2_7
                obtain ⟨⟨i0, i1, jf⟩, s7, s8, hM, hOO⟩ := twoR rW1_13W2_7 rW0_14W1_13W2_7 hne (.int .i64 x.1) (.int .i64 x.2) (.int .i64 (i : Int)) (.bool ql)
                have hs7 : w5.heap.size ≤ W0_14.heap.size := PW0_14.size
                have hs8 : w5.heap.size ≤ Wz.heap.size := PWz.size
                refine any_force (i := 15) (by kernel_rfl) rfl ?_
                go_wp2_with fail
                refine ⟨MKG.out _ (PW2_7.trans' hM (fun i hi e => by omega)), ?_⟩
                refine any_force (i := 16) (by kernel_rfl) rfl ?_
                go_wp2_with fail
                refine ⟨MKG.out _ (PW2_7.trans' hOO (fun i hi e => by omega)), any_done (by kernel_rfl) ?_⟩
                have hend := Lib.hid (PW2_7.trans' hOO (fun i hi e => by omega))
                have hs7 := Lib.hid hs7; have hs8 := Lib.hid hs8; have s7 := Lib.hid s7; have s8 := Lib.hid s8
                go_wp2_with fail
                go_meet
                exact ⟨_, _, rfl, rfl, s7, s8, hend, hs7, hs8⟩
          case rest =>
            obtain ⟨B7, B8, rfl, rfl, h7, h8, hPx, HS7, HS8⟩ := hcut
            have hP0 := HP5.out.trans hPx.out
            have HDwc := Lib.hid (hd.out.pure hP0)
            have HOwc := Lib.hid (hO.out.trans (hP0.mono (fun _ _ f => f.elim)))
            have Q6wc := Lib.hid (hPx.out.heap R6.out (fun f => f)); have Q7wc := h7; have Q8wc := h8
            have HSZ := Lib.hid (show w.heap.size + 1 + 1 < wr.heap.size from by have h1 := lt_of_block hd.out.row; have h2 := HB.out; omega)
            clear hP0 hPx h7 h8 hd hO
            cases ql
            · rcases hl : lessB x (frAt d.hi i)
              · have HL := Lib.hid hl
                have hle := fun W => less_any x (frAt d.hi i) W
                rw [hl] at hle
                have HLE := Lib.hid hle
                clear hl hle
                obtain ⟨G, hG⟩ : ∃ G : World → Prop, ∀ y, G y ↔ Pure wc y := ⟨_, fun _ => Iff.rfl⟩
                have gq0 : ∀ g' : InG G, g'.world.cell? ⟨B6, 0, none⟩ = some (.int .i64 (i : Int)) := fun g' => cell_of_row _ _ 0 _ _ _ (((hG _).1 g'.holds).heap Q6wc.out (fun f => f))
                have gq3 : ∀ g' : InG G, g'.world.cell? ⟨B6, 3, none⟩ = some (.bool _) := fun g' => cell_of_row _ _ 3 _ _ _ (((hG _).1 g'.holds).heap Q6wc.out (fun f => f))
                have gx0 : ∀ g' : InG G, g'.world.cell? ⟨B7, 0, none⟩ = some (.int .i64 x.1) := fun g' => cell_of_row _ _ 0 _ _ _ (((hG _).1 g'.holds).heap Q7wc.out (fun f => f))
                have gx1 : ∀ g' : InG G, g'.world.cell? ⟨B7, 1, none⟩ = some (.int .i64 x.2) := fun g' => cell_of_row _ _ 1 _ _ _ (((hG _).1 g'.holds).heap Q7wc.out (fun f => f))
                have gl0 : ∀ g' : InG G, g'.world.cell? ⟨b, 2 + i * 2, none⟩ = some (.int .i64 (frAt d.lo i).1) := fun g' => ((HDwc.out.pure ((hG _).1 g'.holds)).lo i hi5).1
                have gl1 : ∀ g' : InG G, g'.world.cell? ⟨b, 2 + i * 2 + 1, none⟩ = some (.int .i64 (frAt d.lo i).2) := fun g' => ((HDwc.out.pure ((hG _).1 g'.holds)).lo i hi5).2
                haveI hInh : Inhabited (InG G) := ⟨⟨wc, (hG wc).2 (Only.refl _ _)⟩⟩
                have MKG := Lib.hid (fun y (h : Pure wc y) => (hG y).2 h)
                clear hG
                go_wp2_with fail
                refine any_start G (by kernel_rfl) ?_
                refine any_take [0, 1, 2, 3, 4, 5, 6, 7, 8, 9, 10] (by kernel_rfl) (MKG.out _ (Only.refl _ _).drew) (fun d _ _ _ _ h => by cases d <;> exact h) 3 (by kernel_rfl) ?_
                simp only [picks, List.drop_succ_cons, List.drop_zero, List.take_succ_cons, List.take_zero, List.cons_append, List.nil_append]
                repeat (go_big_quiet_step (fail))
                refine wpQuiet_nil ?_
                refine any_force (i := 11) (by kernel_rfl) rfl ?_
                go_wp2_with fail
                obtain ⟨wcr, hwcr⟩ : ∃ y, y = wc.drew := ⟨_, rfl⟩
                have Qwcr := Lib.hid (show Pure wc wcr from by rw [hwcr]; exact (Only.refl _ _).drew)
                rw [← hwcr]
                clear hwcr gl0 gl1 gx0 gx1 gq0 gq3
                refine ⟨MKG.out _ Qwcr.out, ?_⟩
                refine any_take [12, 13] (by kernel_rfl) (MKG.out _ Qwcr.out) (fun d _ _ _ _ h => by cases d <;> exact h) 0 (by kernel_rfl) ?_
                simp only [picks, List.drop_succ_cons, List.drop_zero, List.take_succ_cons, List.take_zero, List.cons_append, List.nil_append]
                repeat (go_big_quiet_step (fail))
                refine wpQuiet_nil ?_
                refine any_done (by kernel_rfl) ?_
                have Q6wcr := Lib.hid (Qwcr.out.heap Q6wc.out (fun f => f)); have Q7wcr := Lib.hid (Qwcr.out.heap Q7wc.out (fun f => f)); have Q8wcr := Lib.hid (Qwcr.out.heap Q8wc.out (fun f => f)); have HDwcr := Lib.hid (HDwc.out.pure Qwcr.out); have HOwcr := Lib.hid (HOwc.out.trans (Qwcr.out.mono (fun _ _ f => f.elim)))
                clear MKG Q6wc Q7wc Q8wc HDwc HOwc Qwcr
                obtain ⟨G, hG⟩ : ∃ G : World → Prop, ∀ y, G y ↔ Pure wcr y := ⟨_, fun _ => Iff.rfl⟩
                have gq0 : ∀ g' : InG G, g'.world.cell? ⟨B6, 0, none⟩ = some (.int .i64 (i : Int)) := fun g' => cell_of_row _ _ 0 _ _ _ (((hG _).1 g'.holds).heap Q6wcr.out (fun f => f))
                have gq3 : ∀ g' : InG G, g'.world.cell? ⟨B6, 3, none⟩ = some (.bool _) := fun g' => cell_of_row _ _ 3 _ _ _ (((hG _).1 g'.holds).heap Q6wcr.out (fun f => f))
                have gx0 : ∀ g' : InG G, g'.world.cell? ⟨B7, 0, none⟩ = some (.int .i64 x.1) := fun g' => cell_of_row _ _ 0 _ _ _ (((hG _).1 g'.holds).heap Q7wcr.out (fun f => f))
                have gx1 : ∀ g' : InG G, g'.world.cell? ⟨B7, 1, none⟩ = some (.int .i64 x.2) := fun g' => cell_of_row _ _ 1 _ _ _ (((hG _).1 g'.holds).heap Q7wcr.out (fun f => f))
                have gl0 : ∀ g' : InG G, g'.world.cell? ⟨b, 12 + i * 2, none⟩ = some (.int .i64 (frAt d.hi i).1) := fun g' => ((HDwcr.out.pure ((hG _).1 g'.holds)).hi i hi5).1
                have gl1 : ∀ g' : InG G, g'.world.cell? ⟨b, 12 + i * 2 + 1, none⟩ = some (.int .i64 (frAt d.hi i).2) := fun g' => ((HDwcr.out.pure ((hG _).1 g'.holds)).hi i hi5).2
                haveI hInh : Inhabited (InG G) := ⟨⟨wcr, (hG wcr).2 (Only.refl _ _)⟩⟩
                have MKG := Lib.hid (fun y (h : Pure wcr y) => (hG y).2 h)
                clear hG
                go_wp2_with fail
                refine any_start G (by kernel_rfl) ?_
                refine any_take [0, 1, 2, 3, 4, 5, 6, 7, 8, 9, 10, 11] (by kernel_rfl) (MKG.out _ (Only.refl _ _).drew) (fun d _ _ _ _ h => by cases d <;> exact h) 3 (by kernel_rfl) ?_
                simp only [picks, List.drop_succ_cons, List.drop_zero, List.take_succ_cons, List.take_zero, List.cons_append, List.nil_append]
                repeat (go_big_quiet_step (fail))
                refine wpQuiet_nil ?_
                refine any_force (i := 12) (by kernel_rfl) rfl ?_
                go_wp2_with fail
                refine (HLE.out _).mono ?_
                rintro e wcrr ⟨rfl, Qwcrr⟩
                have Qwcrr := Lib.hid ((Only.refl (fun _ => False) wcr).drew.trans Qwcrr)
                clear gl0 gl1 gx0 gx1 gq0 gq3
                go_wp2_with fail
                refine ⟨MKG.out _ Qwcrr.out, ?_⟩
                refine any_take [13, 14] (by kernel_rfl) (MKG.out _ Qwcrr.out) (fun d _ _ _ _ h => by cases d <;> exact h) 0 (by kernel_rfl) ?_
                simp only [picks, List.drop_succ_cons, List.drop_zero, List.take_succ_cons, List.take_zero, List.cons_append, List.nil_append]
                repeat (go_big_quiet_step (fail))
                refine wpQuiet_nil ?_
                refine any_done (by kernel_rfl) ?_
                have Q6wcrr := Lib.hid (Qwcrr.out.heap Q6wcr.out (fun f => f)); have Q7wcrr := Lib.hid (Qwcrr.out.heap Q7wcr.out (fun f => f)); have Q8wcrr := Lib.hid (Qwcrr.out.heap Q8wcr.out (fun f => f)); have HDwcrr := Lib.hid (HDwcr.out.pure Qwcrr.out); have HOwcrr := Lib.hid (HOwcr.out.trans (Qwcrr.out.mono (fun _ _ f => f.elim)))
                clear MKG Q6wcr Q7wcr Q8wcr HDwcr HOwcr Qwcrr
                go_wp2_with fail
                go_roundw
                case rel => exact ⟨k + 1, by omega, by go_num, Lib.hid (by rw [HST.out]; unfold deskStep; rw [HXO.out]; simp [HL.out]; exact HDwcrr.out), HOwcrr⟩
                case measure => simp [intOf]; omega
              · have HL := Lib.hid hl
                have hle := fun W => less_any x (frAt d.hi i) W
                rw [hl] at hle
                have HLE := Lib.hid hle
                clear hl hle
                obtain ⟨G, hG⟩ : ∃ G : World → Prop, ∀ y, G y ↔ Pure wc y := ⟨_, fun _ => Iff.rfl⟩
                have gq0 : ∀ g' : InG G, g'.world.cell? ⟨B6, 0, none⟩ = some (.int .i64 (i : Int)) := fun g' => cell_of_row _ _ 0 _ _ _ (((hG _).1 g'.holds).heap Q6wc.out (fun f => f))
                have gq3 : ∀ g' : InG G, g'.world.cell? ⟨B6, 3, none⟩ = some (.bool _) := fun g' => cell_of_row _ _ 3 _ _ _ (((hG _).1 g'.holds).heap Q6wc.out (fun f => f))
                have gx0 : ∀ g' : InG G, g'.world.cell? ⟨B7, 0, none⟩ = some (.int .i64 x.1) := fun g' => cell_of_row _ _ 0 _ _ _ (((hG _).1 g'.holds).heap Q7wc.out (fun f => f))
                have gx1 : ∀ g' : InG G, g'.world.cell? ⟨B7, 1, none⟩ = some (.int .i64 x.2) := fun g' => cell_of_row _ _ 1 _ _ _ (((hG _).1 g'.holds).heap Q7wc.out (fun f => f))
                have gl0 : ∀ g' : InG G, g'.world.cell? ⟨b, 2 + i * 2, none⟩ = some (.int .i64 (frAt d.lo i).1) := fun g' => ((HDwc.out.pure ((hG _).1 g'.holds)).lo i hi5).1
                have gl1 : ∀ g' : InG G, g'.world.cell? ⟨b, 2 + i * 2 + 1, none⟩ = some (.int .i64 (frAt d.lo i).2) := fun g' => ((HDwc.out.pure ((hG _).1 g'.holds)).lo i hi5).2
                haveI hInh : Inhabited (InG G) := ⟨⟨wc, (hG wc).2 (Only.refl _ _)⟩⟩
                have MKG := Lib.hid (fun y (h : Pure wc y) => (hG y).2 h)
                clear hG
                go_wp2_with fail
                refine any_start G (by kernel_rfl) ?_
                refine any_take [0, 1, 2, 3, 4, 5, 6, 7, 8, 9, 10] (by kernel_rfl) (MKG.out _ (Only.refl _ _).drew) (fun d _ _ _ _ h => by cases d <;> exact h) 3 (by kernel_rfl) ?_
                simp only [picks, List.drop_succ_cons, List.drop_zero, List.take_succ_cons, List.take_zero, List.cons_append, List.nil_append]
                repeat (go_big_quiet_step (fail))
                refine wpQuiet_nil ?_
                refine any_force (i := 11) (by kernel_rfl) rfl ?_
                go_wp2_with fail
                obtain ⟨wcr, hwcr⟩ : ∃ y, y = wc.drew := ⟨_, rfl⟩
                have Qwcr := Lib.hid (show Pure wc wcr from by rw [hwcr]; exact (Only.refl _ _).drew)
                rw [← hwcr]
                clear hwcr gl0 gl1 gx0 gx1 gq0 gq3
                refine ⟨MKG.out _ Qwcr.out, ?_⟩
                refine any_take [12, 13] (by kernel_rfl) (MKG.out _ Qwcr.out) (fun d _ _ _ _ h => by cases d <;> exact h) 0 (by kernel_rfl) ?_
                simp only [picks, List.drop_succ_cons, List.drop_zero, List.take_succ_cons, List.take_zero, List.cons_append, List.nil_append]
                repeat (go_big_quiet_step (fail))
                refine wpQuiet_nil ?_
                refine any_done (by kernel_rfl) ?_
                have Q6wcr := Lib.hid (Qwcr.out.heap Q6wc.out (fun f => f)); have Q7wcr := Lib.hid (Qwcr.out.heap Q7wc.out (fun f => f)); have Q8wcr := Lib.hid (Qwcr.out.heap Q8wc.out (fun f => f)); have HDwcr := Lib.hid (HDwc.out.pure Qwcr.out); have HOwcr := Lib.hid (HOwc.out.trans (Qwcr.out.mono (fun _ _ f => f.elim)))
                clear MKG Q6wc Q7wc Q8wc HDwc HOwc Qwcr
                obtain ⟨G, hG⟩ : ∃ G : World → Prop, ∀ y, G y ↔ Pure wcr y := ⟨_, fun _ => Iff.rfl⟩
                have gq0 : ∀ g' : InG G, g'.world.cell? ⟨B6, 0, none⟩ = some (.int .i64 (i : Int)) := fun g' => cell_of_row _ _ 0 _ _ _ (((hG _).1 g'.holds).heap Q6wcr.out (fun f => f))
                have gq3 : ∀ g' : InG G, g'.world.cell? ⟨B6, 3, none⟩ = some (.bool _) := fun g' => cell_of_row _ _ 3 _ _ _ (((hG _).1 g'.holds).heap Q6wcr.out (fun f => f))
                have gx0 : ∀ g' : InG G, g'.world.cell? ⟨B7, 0, none⟩ = some (.int .i64 x.1) := fun g' => cell_of_row _ _ 0 _ _ _ (((hG _).1 g'.holds).heap Q7wcr.out (fun f => f))
                have gx1 : ∀ g' : InG G, g'.world.cell? ⟨B7, 1, none⟩ = some (.int .i64 x.2) := fun g' => cell_of_row _ _ 1 _ _ _ (((hG _).1 g'.holds).heap Q7wcr.out (fun f => f))
                have gl0 : ∀ g' : InG G, g'.world.cell? ⟨b, 12 + i * 2, none⟩ = some (.int .i64 (frAt d.hi i).1) := fun g' => ((HDwcr.out.pure ((hG _).1 g'.holds)).hi i hi5).1
                have gl1 : ∀ g' : InG G, g'.world.cell? ⟨b, 12 + i * 2 + 1, none⟩ = some (.int .i64 (frAt d.hi i).2) := fun g' => ((HDwcr.out.pure ((hG _).1 g'.holds)).hi i hi5).2
                haveI hInh : Inhabited (InG G) := ⟨⟨wcr, (hG wcr).2 (Only.refl _ _)⟩⟩
                have MKG := Lib.hid (fun y (h : Pure wcr y) => (hG y).2 h)
                clear hG
                go_wp2_with fail
                refine any_start G (by kernel_rfl) ?_
                refine any_take [0, 1, 2, 3, 4, 5, 6, 7, 8, 9, 10, 11] (by kernel_rfl) (MKG.out _ (Only.refl _ _).drew) (fun d _ _ _ _ h => by cases d <;> exact h) 3 (by kernel_rfl) ?_
                simp only [picks, List.drop_succ_cons, List.drop_zero, List.take_succ_cons, List.take_zero, List.cons_append, List.nil_append]
                repeat (go_big_quiet_step (fail))
                refine wpQuiet_nil ?_
                refine any_force (i := 12) (by kernel_rfl) rfl ?_
                go_wp2_with fail
                refine (HLE.out _).mono ?_
                rintro e wcrr ⟨rfl, Qwcrr⟩
                have Qwcrr := Lib.hid ((Only.refl (fun _ => False) wcr).drew.trans Qwcrr)
                clear gl0 gl1 gx0 gx1 gq0 gq3
                go_wp2_with fail
                refine ⟨MKG.out _ Qwcrr.out, ?_⟩
                refine any_take [13, 14] (by kernel_rfl) (MKG.out _ Qwcrr.out) (fun d _ _ _ _ h => by cases d <;> exact h) 0 (by kernel_rfl) ?_
                simp only [picks, List.drop_succ_cons, List.drop_zero, List.take_succ_cons, List.take_zero, List.cons_append, List.nil_append]
                repeat (go_big_quiet_step (fail))
                refine wpQuiet_nil ?_
                refine any_done (by kernel_rfl) ?_
                have Q6wcrr := Lib.hid (Qwcrr.out.heap Q6wcr.out (fun f => f)); have Q7wcrr := Lib.hid (Qwcrr.out.heap Q7wcr.out (fun f => f)); have Q8wcrr := Lib.hid (Qwcrr.out.heap Q8wcr.out (fun f => f)); have HDwcrr := Lib.hid (HDwcr.out.pure Qwcrr.out); have HOwcrr := Lib.hid (HOwcr.out.trans (Qwcrr.out.mono (fun _ _ f => f.elim)))
                clear MKG Q6wcr Q7wcr Q8wcr HDwcr HOwcr Qwcrr
                have n6 : B6 ≠ b ∧ B6 ≠ mb := by have := HS5.out; have := HB6.out; have := HB.out; have := HMB.out; have := HSZ.out; omega
                have n7 : B7 ≠ b ∧ B7 ≠ mb := by have := HS7.out; have := HS5.out; have := HB6.out; have := HB.out; have := HMB.out; have := HSZ.out; omega
                have n8 : B8 ≠ b ∧ B8 ≠ mb := by have := HS8.out; have := HS5.out; have := HB6.out; have := HB.out; have := HMB.out; have := HSZ.out; omega
                obtain ⟨G, hG⟩ : ∃ G : World → Prop, ∀ y, G y ↔ (Only (fun q => q = b ∨ q = mb) wcrr y ∧ y.cell? ⟨b, 22, none⟩ = some (.map (some mb))) := ⟨_, fun _ => Iff.rfl⟩
                have gq0 : ∀ g' : InG G, g'.world.cell? ⟨B6, 0, none⟩ = some (.int .i64 (i : Int)) := fun g' => cell_of_row _ _ 0 _ _ _ (((hG _).1 g'.holds).1.heap Q6wcrr.out (by omega))
                have gx0 : ∀ g' : InG G, g'.world.cell? ⟨B7, 0, none⟩ = some (.int .i64 x.1) := fun g' => cell_of_row _ _ 0 _ _ _ (((hG _).1 g'.holds).1.heap Q7wcrr.out (by omega))
                have gx1 : ∀ g' : InG G, g'.world.cell? ⟨B7, 1, none⟩ = some (.int .i64 x.2) := fun g' => cell_of_row _ _ 1 _ _ _ (((hG _).1 g'.holds).1.heap Q7wcrr.out (by omega))
                have gk0 : ∀ g' : InG G, g'.world.cell? ⟨B8, 0, none⟩ = some (.int .i64 (i : Int)) := fun g' => cell_of_row _ _ 0 _ _ _ (((hG _).1 g'.holds).1.heap Q8wcrr.out (by omega))
                have gk1 : ∀ g' : InG G, g'.world.cell? ⟨B8, 1, none⟩ = some (.bool false) := fun g' => cell_of_row _ _ 1 _ _ _ (((hG _).1 g'.holds).1.heap Q8wcrr.out (by omega))
                have gby : ∀ g' : InG G, g'.world.cell? ⟨b, 22, none⟩ = some (.map (some mb)) := fun g' => ((hG _).1 g'.holds).2
                haveI hInh : Inhabited (InG G) := ⟨⟨wcrr, (hG wcrr).2 ⟨Only.refl _ _, HDwcrr.out.by_⟩⟩⟩
                have MKG := Lib.hid (fun y (h : Only (fun q => q = b ∨ q = mb) wcrr y) (h2 : y.cell? ⟨b, 22, none⟩ = some (.map (some mb))) => (hG y).2 ⟨h, h2⟩)
                obtain ⟨s0, s1⟩ := HDwcrr.out.hi i hi5
                have sf := HDwcrr.out.frozen
                have hS1 := HDwcrr.out.setHi i hi5 x
                have hOs := (((Only.refl (fun q => q = b ∨ q = mb) wcrr).setCell (p := ⟨b, 12 + i * 2, none⟩) (.inl (.inl rfl)) (.int .i64 x.1)).setCell (p := ⟨b, 12 + i * 2 + 1, none⟩) (.inl (.inl rfl)) (.int .i64 x.2)).drew
                obtain ⟨ws, hws⟩ : ∃ y, y = ((wcrr.setCell ⟨b, 12 + i * 2, none⟩ (.int .i64 x.1)).setCell ⟨b, 12 + i * 2 + 1, none⟩ (.int .i64 x.2)).drew := ⟨_, rfl⟩
                have hD1 : DeskAt ws b mb (.slice (some ⟨bq, oq, none⟩) n cp) R ⟨d.lo, d.hi.set i x, d.by_⟩ := by rw [hws]; exact hS1.pure (Only.refl _ _).drew
                rw [← hws] at hOs
                obtain ⟨o, nb, u, hent, hsto⟩ := hD1.map.entry side_law (T := 114) Try.underlying114 (Try.zeroValue3 _) ((i : Int), false)
                have hO2 := hOs.trans ((putObj_only ws mb o).mono (S' := fun q => q = b ∨ q = mb) (fun _ _ e => .inr e))
                have hat : (ws.putObj mb o).heap[mb]? = some o := by
                  obtain ⟨_, _, hmi, _⟩ := hD1.map
                  exact putObj_at hmi.heap
                obtain ⟨o', hsr, hmf⟩ := hsto _ hat (.int .i64 (k : Int))
                have hO3 := hO2.trans ((putObj_only (ws.putObj mb o) mb o').mono (S' := fun q => q = b ∨ q = mb) (fun _ _ e => .inr e))
                have hnbm : b ≠ mb := hD1.ne
                have hrow2 := (World.putObj_heap_other (o := o') hnbm).trans ((World.putObj_heap_other (o := o) hnbm).trans hD1.row)
                have hby1 : ws.cell? ⟨b, 22, none⟩ = some (.map (some mb)) := hD1.by_
                have hby2 : (ws.putObj mb o).cell? ⟨b, 22, none⟩ = some (.map (some mb)) := (putObj_only ws mb o).cell hby1 (fun e => hnbm e)
                have hby3 : ((ws.putObj mb o).putObj mb o').cell? ⟨b, 22, none⟩ = some (.map (some mb)) := (putObj_only _ mb o').cell hby2 (fun e => hnbm e)
                have hfin : DeskAt ((ws.putObj mb o).putObj mb o') b mb (.slice (some ⟨bq, oq, none⟩) n cp) R ⟨d.lo, d.hi.set i x, fun s => if s = ((i : Int), false) then some (k : Int) else d.by_ s⟩ :=
                  ⟨hD1.l5, hD1.h5, hrow2, hmf.congr (fun t => by unfold upd; by_cases e : t = ((i : Int), false) <;> simp [e])⟩
                have hnext : deskTo m (k + 1) = ⟨d.lo, d.hi.set i x, fun s => if s = ((i : Int), false) then some (k : Int) else d.by_ s⟩ := by
                  rw [HST.out]; unfold deskStep; rw [HXO.out]; simp [HL.out]
                have HFIN := Lib.hid hfin; have HNX := Lib.hid hnext; have HOS := Lib.hid hOs; have HO2 := Lib.hid hO2; have HO3 := Lib.hid hO3; have HWS := Lib.hid hws
                have HBY := Lib.hid (And.intro hby1 (And.intro hby2 hby3))
                unfold sideV at hent
                dsimp only at hent
                clear hG hS1 hws hD1 hsto hat hmf hrow2 hfin hnext hOs hO2 hO3 hby1 hby2 hby3 n6 n7 n8 hnbm
                go_wp2_with fail
                refine any_start G (by kernel_rfl) ?_
                refine any_take [0, 1, 2, 3, 4, 5, 6, 7, 8, 9, 10, 11, 12] (by kernel_rfl) (MKG.out _ (Only.refl _ _).drew HDwcrr.out.by_) (fun d _ _ _ _ h => by cases d <;> exact h) 4 (by kernel_rfl) ?_
                simp only [picks, List.drop_succ_cons, List.drop_zero, List.take_succ_cons, List.take_zero, List.cons_append, List.nil_append]
                repeat (go_big_quiet_step (fail))
                refine wpQuiet_nil ?_
                refine any_force (i := 13) (by kernel_rfl) rfl ?_
                clear gq0 gx0 gx1 gk0 gk1 gby
                go_wp2_with fail
                rw [← HWS.out]
                refine ⟨MKG.out _ HOS.out HBY.out.1, ?_⟩
                refine any_force (i := 14) (by kernel_rfl) rfl ?_
                go_wp2_with fail
                refine ⟨MKG.out _ HO2.out HBY.out.2.1, ?_⟩
                refine any_take [15] (by kernel_rfl) (MKG.out _ HO2.out HBY.out.2.1) (fun d _ _ _ _ h => by cases d <;> exact h) 1 (by kernel_rfl) ?_
                simp only [picks, List.drop_succ_cons, List.drop_zero, List.take_succ_cons, List.take_zero, List.cons_append, List.nil_append]
                repeat (go_big_quiet_step (fail))
                refine wpQuiet_nil ?_
                refine any_force (i := 16) (by kernel_rfl) rfl ?_
                go_wp2_with fail
                refine ⟨MKG.out _ HO3.out HBY.out.2.2, any_done (by kernel_rfl) ?_⟩
                go_wp2_with fail
                go_roundw
                case rel => exact ⟨k + 1, by omega, by go_num, Lib.hid (by rw [HNX.out]; exact HFIN.out), Lib.hid (HOwcrr.out.trans' HO3.out (fun i hi e => e))⟩
                case measure => simp [intOf]; omega
            · rcases hl : lessB (frAt d.lo i) x
              · have HL := Lib.hid hl
                have hle := fun W => less_any (frAt d.lo i) x W
                rw [hl] at hle
                have HLE := Lib.hid hle
                clear hl hle
                obtain ⟨G, hG⟩ : ∃ G : World → Prop, ∀ y, G y ↔ Pure wc y := ⟨_, fun _ => Iff.rfl⟩
                have gq0 : ∀ g' : InG G, g'.world.cell? ⟨B6, 0, none⟩ = some (.int .i64 (i : Int)) := fun g' => cell_of_row _ _ 0 _ _ _ (((hG _).1 g'.holds).heap Q6wc.out (fun f => f))
                have gq3 : ∀ g' : InG G, g'.world.cell? ⟨B6, 3, none⟩ = some (.bool _) := fun g' => cell_of_row _ _ 3 _ _ _ (((hG _).1 g'.holds).heap Q6wc.out (fun f => f))
                have gx0 : ∀ g' : InG G, g'.world.cell? ⟨B7, 0, none⟩ = some (.int .i64 x.1) := fun g' => cell_of_row _ _ 0 _ _ _ (((hG _).1 g'.holds).heap Q7wc.out (fun f => f))
                have gx1 : ∀ g' : InG G, g'.world.cell? ⟨B7, 1, none⟩ = some (.int .i64 x.2) := fun g' => cell_of_row _ _ 1 _ _ _ (((hG _).1 g'.holds).heap Q7wc.out (fun f => f))
                have gl0 : ∀ g' : InG G, g'.world.cell? ⟨b, 2 + i * 2, none⟩ = some (.int .i64 (frAt d.lo i).1) := fun g' => ((HDwc.out.pure ((hG _).1 g'.holds)).lo i hi5).1
                have gl1 : ∀ g' : InG G, g'.world.cell? ⟨b, 2 + i * 2 + 1, none⟩ = some (.int .i64 (frAt d.lo i).2) := fun g' => ((HDwc.out.pure ((hG _).1 g'.holds)).lo i hi5).2
                haveI hInh : Inhabited (InG G) := ⟨⟨wc, (hG wc).2 (Only.refl _ _)⟩⟩
                have MKG := Lib.hid (fun y (h : Pure wc y) => (hG y).2 h)
                clear hG
                go_wp2_with fail
                refine any_start G (by kernel_rfl) ?_
                refine any_take [0, 1, 2, 3, 4, 5, 6, 7, 8, 9, 10] (by kernel_rfl) (MKG.out _ (Only.refl _ _).drew) (fun d _ _ _ _ h => by cases d <;> exact h) 3 (by kernel_rfl) ?_
                simp only [picks, List.drop_succ_cons, List.drop_zero, List.take_succ_cons, List.take_zero, List.cons_append, List.nil_append]
                repeat (go_big_quiet_step (fail))
                refine wpQuiet_nil ?_
                refine any_force (i := 11) (by kernel_rfl) rfl ?_
                go_wp2_with fail
                refine (HLE.out _).mono ?_
                rintro e wcr ⟨rfl, Qwcr⟩
                have Qwcr := Lib.hid ((Only.refl (fun _ => False) wc).drew.trans Qwcr)
                clear gl0 gl1 gx0 gx1 gq0 gq3
                go_wp2_with fail
                refine ⟨MKG.out _ Qwcr.out, ?_⟩
                refine any_take [12, 13] (by kernel_rfl) (MKG.out _ Qwcr.out) (fun d _ _ _ _ h => by cases d <;> exact h) 0 (by kernel_rfl) ?_
                simp only [picks, List.drop_succ_cons, List.drop_zero, List.take_succ_cons, List.take_zero, List.cons_append, List.nil_append]
                repeat (go_big_quiet_step (fail))
                refine wpQuiet_nil ?_
                refine any_done (by kernel_rfl) ?_
                have Q6wcr := Lib.hid (Qwcr.out.heap Q6wc.out (fun f => f)); have Q7wcr := Lib.hid (Qwcr.out.heap Q7wc.out (fun f => f)); have Q8wcr := Lib.hid (Qwcr.out.heap Q8wc.out (fun f => f)); have HDwcr := Lib.hid (HDwc.out.pure Qwcr.out); have HOwcr := Lib.hid (HOwc.out.trans (Qwcr.out.mono (fun _ _ f => f.elim)))
                clear MKG Q6wc Q7wc Q8wc HDwc HOwc Qwcr
                obtain ⟨G, hG⟩ : ∃ G : World → Prop, ∀ y, G y ↔ Pure wcr y := ⟨_, fun _ => Iff.rfl⟩
                have gq0 : ∀ g' : InG G, g'.world.cell? ⟨B6, 0, none⟩ = some (.int .i64 (i : Int)) := fun g' => cell_of_row _ _ 0 _ _ _ (((hG _).1 g'.holds).heap Q6wcr.out (fun f => f))
                have gq3 : ∀ g' : InG G, g'.world.cell? ⟨B6, 3, none⟩ = some (.bool _) := fun g' => cell_of_row _ _ 3 _ _ _ (((hG _).1 g'.holds).heap Q6wcr.out (fun f => f))
                have gx0 : ∀ g' : InG G, g'.world.cell? ⟨B7, 0, none⟩ = some (.int .i64 x.1) := fun g' => cell_of_row _ _ 0 _ _ _ (((hG _).1 g'.holds).heap Q7wcr.out (fun f => f))
                have gx1 : ∀ g' : InG G, g'.world.cell? ⟨B7, 1, none⟩ = some (.int .i64 x.2) := fun g' => cell_of_row _ _ 1 _ _ _ (((hG _).1 g'.holds).heap Q7wcr.out (fun f => f))
                have gl0 : ∀ g' : InG G, g'.world.cell? ⟨b, 12 + i * 2, none⟩ = some (.int .i64 (frAt d.hi i).1) := fun g' => ((HDwcr.out.pure ((hG _).1 g'.holds)).hi i hi5).1
                have gl1 : ∀ g' : InG G, g'.world.cell? ⟨b, 12 + i * 2 + 1, none⟩ = some (.int .i64 (frAt d.hi i).2) := fun g' => ((HDwcr.out.pure ((hG _).1 g'.holds)).hi i hi5).2
                haveI hInh : Inhabited (InG G) := ⟨⟨wcr, (hG wcr).2 (Only.refl _ _)⟩⟩
                have MKG := Lib.hid (fun y (h : Pure wcr y) => (hG y).2 h)
                clear hG
                go_wp2_with fail
                refine any_start G (by kernel_rfl) ?_
                refine any_take [0, 1, 2, 3, 4, 5, 6, 7, 8, 9, 10, 11] (by kernel_rfl) (MKG.out _ (Only.refl _ _).drew) (fun d _ _ _ _ h => by cases d <;> exact h) 3 (by kernel_rfl) ?_
                simp only [picks, List.drop_succ_cons, List.drop_zero, List.take_succ_cons, List.take_zero, List.cons_append, List.nil_append]
                repeat (go_big_quiet_step (fail))
                refine wpQuiet_nil ?_
                refine any_force (i := 12) (by kernel_rfl) rfl ?_
                go_wp2_with fail
                obtain ⟨wcrr, hwcrr⟩ : ∃ y, y = wcr.drew := ⟨_, rfl⟩
                have Qwcrr := Lib.hid (show Pure wcr wcrr from by rw [hwcrr]; exact (Only.refl _ _).drew)
                rw [← hwcrr]
                clear hwcrr gl0 gl1 gx0 gx1 gq0 gq3
                refine ⟨MKG.out _ Qwcrr.out, ?_⟩
                refine any_take [13, 14] (by kernel_rfl) (MKG.out _ Qwcrr.out) (fun d _ _ _ _ h => by cases d <;> exact h) 0 (by kernel_rfl) ?_
                simp only [picks, List.drop_succ_cons, List.drop_zero, List.take_succ_cons, List.take_zero, List.cons_append, List.nil_append]
                repeat (go_big_quiet_step (fail))
                refine wpQuiet_nil ?_
                refine any_done (by kernel_rfl) ?_
                have Q6wcrr := Lib.hid (Qwcrr.out.heap Q6wcr.out (fun f => f)); have Q7wcrr := Lib.hid (Qwcrr.out.heap Q7wcr.out (fun f => f)); have Q8wcrr := Lib.hid (Qwcrr.out.heap Q8wcr.out (fun f => f)); have HDwcrr := Lib.hid (HDwcr.out.pure Qwcrr.out); have HOwcrr := Lib.hid (HOwcr.out.trans (Qwcrr.out.mono (fun _ _ f => f.elim)))
                clear MKG Q6wcr Q7wcr Q8wcr HDwcr HOwcr Qwcrr
                go_wp2_with fail
                go_roundw
                case rel => exact ⟨k + 1, by omega, by go_num, Lib.hid (by rw [HST.out]; unfold deskStep; rw [HXO.out]; simp [HL.out]; exact HDwcrr.out), HOwcrr⟩
                case measure => simp [intOf]; omega
              · have HL := Lib.hid hl
                have hle := fun W => less_any (frAt d.lo i) x W
                rw [hl] at hle
                have HLE := Lib.hid hle
                clear hl hle
                obtain ⟨G, hG⟩ : ∃ G : World → Prop, ∀ y, G y ↔ Pure wc y := ⟨_, fun _ => Iff.rfl⟩
                have gq0 : ∀ g' : InG G, g'.world.cell? ⟨B6, 0, none⟩ = some (.int .i64 (i : Int)) := fun g' => cell_of_row _ _ 0 _ _ _ (((hG _).1 g'.holds).heap Q6wc.out (fun f => f))
                have gq3 : ∀ g' : InG G, g'.world.cell? ⟨B6, 3, none⟩ = some (.bool _) := fun g' => cell_of_row _ _ 3 _ _ _ (((hG _).1 g'.holds).heap Q6wc.out (fun f => f))
                have gx0 : ∀ g' : InG G, g'.world.cell? ⟨B7, 0, none⟩ = some (.int .i64 x.1) := fun g' => cell_of_row _ _ 0 _ _ _ (((hG _).1 g'.holds).heap Q7wc.out (fun f => f))
                have gx1 : ∀ g' : InG G, g'.world.cell? ⟨B7, 1, none⟩ = some (.int .i64 x.2) := fun g' => cell_of_row _ _ 1 _ _ _ (((hG _).1 g'.holds).heap Q7wc.out (fun f => f))
                have gl0 : ∀ g' : InG G, g'.world.cell? ⟨b, 2 + i * 2, none⟩ = some (.int .i64 (frAt d.lo i).1) := fun g' => ((HDwc.out.pure ((hG _).1 g'.holds)).lo i hi5).1
                have gl1 : ∀ g' : InG G, g'.world.cell? ⟨b, 2 + i * 2 + 1, none⟩ = some (.int .i64 (frAt d.lo i).2) := fun g' => ((HDwc.out.pure ((hG _).1 g'.holds)).lo i hi5).2
                haveI hInh : Inhabited (InG G) := ⟨⟨wc, (hG wc).2 (Only.refl _ _)⟩⟩
                have MKG := Lib.hid (fun y (h : Pure wc y) => (hG y).2 h)
                clear hG
                go_wp2_with fail
                refine any_start G (by kernel_rfl) ?_
                refine any_take [0, 1, 2, 3, 4, 5, 6, 7, 8, 9, 10] (by kernel_rfl) (MKG.out _ (Only.refl _ _).drew) (fun d _ _ _ _ h => by cases d <;> exact h) 3 (by kernel_rfl) ?_
                simp only [picks, List.drop_succ_cons, List.drop_zero, List.take_succ_cons, List.take_zero, List.cons_append, List.nil_append]
                repeat (go_big_quiet_step (fail))
                refine wpQuiet_nil ?_
                refine any_force (i := 11) (by kernel_rfl) rfl ?_
                go_wp2_with fail
                refine (HLE.out _).mono ?_
                rintro e wcr ⟨rfl, Qwcr⟩
                have Qwcr := Lib.hid ((Only.refl (fun _ => False) wc).drew.trans Qwcr)
                clear gl0 gl1 gx0 gx1 gq0 gq3
                go_wp2_with fail
                refine ⟨MKG.out _ Qwcr.out, ?_⟩
                refine any_take [12, 13] (by kernel_rfl) (MKG.out _ Qwcr.out) (fun d _ _ _ _ h => by cases d <;> exact h) 0 (by kernel_rfl) ?_
                simp only [picks, List.drop_succ_cons, List.drop_zero, List.take_succ_cons, List.take_zero, List.cons_append, List.nil_append]
                repeat (go_big_quiet_step (fail))
                refine wpQuiet_nil ?_
                refine any_done (by kernel_rfl) ?_
                have Q6wcr := Lib.hid (Qwcr.out.heap Q6wc.out (fun f => f)); have Q7wcr := Lib.hid (Qwcr.out.heap Q7wc.out (fun f => f)); have Q8wcr := Lib.hid (Qwcr.out.heap Q8wc.out (fun f => f)); have HDwcr := Lib.hid (HDwc.out.pure Qwcr.out); have HOwcr := Lib.hid (HOwc.out.trans (Qwcr.out.mono (fun _ _ f => f.elim)))
                clear MKG Q6wc Q7wc Q8wc HDwc HOwc Qwcr
                have n6 : B6 ≠ b ∧ B6 ≠ mb := by have := HS5.out; have := HB6.out; have := HB.out; have := HMB.out; have := HSZ.out; omega
                have n7 : B7 ≠ b ∧ B7 ≠ mb := by have := HS7.out; have := HS5.out; have := HB6.out; have := HB.out; have := HMB.out; have := HSZ.out; omega
                have n8 : B8 ≠ b ∧ B8 ≠ mb := by have := HS8.out; have := HS5.out; have := HB6.out; have := HB.out; have := HMB.out; have := HSZ.out; omega
                obtain ⟨G, hG⟩ : ∃ G : World → Prop, ∀ y, G y ↔ (Only (fun q => q = b ∨ q = mb) wcr y ∧ y.cell? ⟨b, 22, none⟩ = some (.map (some mb))) := ⟨_, fun _ => Iff.rfl⟩
                have gq0 : ∀ g' : InG G, g'.world.cell? ⟨B6, 0, none⟩ = some (.int .i64 (i : Int)) := fun g' => cell_of_row _ _ 0 _ _ _ (((hG _).1 g'.holds).1.heap Q6wcr.out (by omega))
                have gx0 : ∀ g' : InG G, g'.world.cell? ⟨B7, 0, none⟩ = some (.int .i64 x.1) := fun g' => cell_of_row _ _ 0 _ _ _ (((hG _).1 g'.holds).1.heap Q7wcr.out (by omega))
                have gx1 : ∀ g' : InG G, g'.world.cell? ⟨B7, 1, none⟩ = some (.int .i64 x.2) := fun g' => cell_of_row _ _ 1 _ _ _ (((hG _).1 g'.holds).1.heap Q7wcr.out (by omega))
                have gk0 : ∀ g' : InG G, g'.world.cell? ⟨B8, 0, none⟩ = some (.int .i64 (i : Int)) := fun g' => cell_of_row _ _ 0 _ _ _ (((hG _).1 g'.holds).1.heap Q8wcr.out (by omega))
                have gk1 : ∀ g' : InG G, g'.world.cell? ⟨B8, 1, none⟩ = some (.bool true) := fun g' => cell_of_row _ _ 1 _ _ _ (((hG _).1 g'.holds).1.heap Q8wcr.out (by omega))
                have gby : ∀ g' : InG G, g'.world.cell? ⟨b, 22, none⟩ = some (.map (some mb)) := fun g' => ((hG _).1 g'.holds).2
                haveI hInh : Inhabited (InG G) := ⟨⟨wcr, (hG wcr).2 ⟨Only.refl _ _, HDwcr.out.by_⟩⟩⟩
                have MKG := Lib.hid (fun y (h : Only (fun q => q = b ∨ q = mb) wcr y) (h2 : y.cell? ⟨b, 22, none⟩ = some (.map (some mb))) => (hG y).2 ⟨h, h2⟩)
                obtain ⟨s0, s1⟩ := HDwcr.out.lo i hi5
                have sf := HDwcr.out.frozen
                have hS1 := HDwcr.out.setLo i hi5 x
                have hOs := (((Only.refl (fun q => q = b ∨ q = mb) wcr).setCell (p := ⟨b, 2 + i * 2, none⟩) (.inl (.inl rfl)) (.int .i64 x.1)).setCell (p := ⟨b, 2 + i * 2 + 1, none⟩) (.inl (.inl rfl)) (.int .i64 x.2)).drew
                obtain ⟨ws, hws⟩ : ∃ y, y = ((wcr.setCell ⟨b, 2 + i * 2, none⟩ (.int .i64 x.1)).setCell ⟨b, 2 + i * 2 + 1, none⟩ (.int .i64 x.2)).drew := ⟨_, rfl⟩
                have hD1 : DeskAt ws b mb (.slice (some ⟨bq, oq, none⟩) n cp) R ⟨d.lo.set i x, d.hi, d.by_⟩ := by rw [hws]; exact hS1.pure (Only.refl _ _).drew
                rw [← hws] at hOs
                obtain ⟨o, nb, u, hent, hsto⟩ := hD1.map.entry side_law (T := 114) Try.underlying114 (Try.zeroValue3 _) ((i : Int), true)
                have hO2 := hOs.trans ((putObj_only ws mb o).mono (S' := fun q => q = b ∨ q = mb) (fun _ _ e => .inr e))
                have hat : (ws.putObj mb o).heap[mb]? = some o := by
                  obtain ⟨_, _, hmi, _⟩ := hD1.map
                  exact putObj_at hmi.heap
                obtain ⟨o', hsr, hmf⟩ := hsto _ hat (.int .i64 (k : Int))
                have hO3 := hO2.trans ((putObj_only (ws.putObj mb o) mb o').mono (S' := fun q => q = b ∨ q = mb) (fun _ _ e => .inr e))
                have hnbm : b ≠ mb := hD1.ne
                have hrow2 := (World.putObj_heap_other (o := o') hnbm).trans ((World.putObj_heap_other (o := o) hnbm).trans hD1.row)
                have hby1 : ws.cell? ⟨b, 22, none⟩ = some (.map (some mb)) := hD1.by_
                have hby2 : (ws.putObj mb o).cell? ⟨b, 22, none⟩ = some (.map (some mb)) := (putObj_only ws mb o).cell hby1 (fun e => hnbm e)
                have hby3 : ((ws.putObj mb o).putObj mb o').cell? ⟨b, 22, none⟩ = some (.map (some mb)) := (putObj_only _ mb o').cell hby2 (fun e => hnbm e)
                have hfin : DeskAt ((ws.putObj mb o).putObj mb o') b mb (.slice (some ⟨bq, oq, none⟩) n cp) R ⟨d.lo.set i x, d.hi, fun s => if s = ((i : Int), true) then some (k : Int) else d.by_ s⟩ :=
                  ⟨hD1.l5, hD1.h5, hrow2, hmf.congr (fun t => by unfold upd; by_cases e : t = ((i : Int), true) <;> simp [e])⟩
                have hnext : deskTo m (k + 1) = ⟨d.lo.set i x, d.hi, fun s => if s = ((i : Int), true) then some (k : Int) else d.by_ s⟩ := by
                  rw [HST.out]; unfold deskStep; rw [HXO.out]; simp [HL.out]
                have HFIN := Lib.hid hfin; have HNX := Lib.hid hnext; have HOS := Lib.hid hOs; have HO2 := Lib.hid hO2; have HO3 := Lib.hid hO3; have HWS := Lib.hid hws
                have HBY := Lib.hid (And.intro hby1 (And.intro hby2 hby3))
                unfold sideV at hent
                dsimp only at hent
                clear hG hS1 hws hD1 hsto hat hmf hrow2 hfin hnext hOs hO2 hO3 hby1 hby2 hby3 n6 n7 n8 hnbm
                go_wp2_with fail
                refine any_start G (by kernel_rfl) ?_
                refine any_take [0, 1, 2, 3, 4, 5, 6, 7, 8, 9, 10, 11, 12] (by kernel_rfl) (MKG.out _ (Only.refl _ _).drew HDwcr.out.by_) (fun d _ _ _ _ h => by cases d <;> exact h) 4 (by kernel_rfl) ?_
                simp only [picks, List.drop_succ_cons, List.drop_zero, List.take_succ_cons, List.take_zero, List.cons_append, List.nil_append]
                repeat (go_big_quiet_step (fail))
                refine wpQuiet_nil ?_
                refine any_force (i := 13) (by kernel_rfl) rfl ?_
                clear gq0 gx0 gx1 gk0 gk1 gby
                go_wp2_with fail
                rw [← HWS.out]
                refine ⟨MKG.out _ HOS.out HBY.out.1, ?_⟩
                refine any_force (i := 14) (by kernel_rfl) rfl ?_
                go_wp2_with fail
                refine ⟨MKG.out _ HO2.out HBY.out.2.1, ?_⟩
                refine any_take [15] (by kernel_rfl) (MKG.out _ HO2.out HBY.out.2.1) (fun d _ _ _ _ h => by cases d <;> exact h) 1 (by kernel_rfl) ?_
                simp only [picks, List.drop_succ_cons, List.drop_zero, List.take_succ_cons, List.take_zero, List.cons_append, List.nil_append]
                repeat (go_big_quiet_step (fail))
                refine wpQuiet_nil ?_
                refine any_force (i := 16) (by kernel_rfl) rfl ?_
                go_wp2_with fail
                refine ⟨MKG.out _ HO3.out HBY.out.2.2, any_done (by kernel_rfl) ?_⟩
                go_wp2_with fail
                go_roundw
                case rel => exact ⟨k + 1, by omega, by go_num, Lib.hid (by rw [HNX.out]; exact HFIN.out), Lib.hid (HOwcr.out.trans' HO3.out (fun i hi e => e))⟩
                case measure => simp [intOf]; omega
        · obtain rfl : n = k := by omega
          have HPZ := Lib.hid (HP.out.trans' hO.out (fun i hi e => by have := HB.out; have := HMB.out; omega))
          go_wp2_with fail
          go_ret
          exact ⟨b, mb, rfl, by have := HB.out; omega, by have := HMB.out; omega, hd.out, HPZ.out⟩
end Go.Proofs.Ythnjfekkngpbjaa

/- first; the search for runners whose limits cross. -/
namespace Go.Proofs.Ythnjfekkngpbjaa
open Go.RowKit Go.Shelf

def firstP (p : Int → Bool) (l : List Int) (d : Int) : Int := (l.find? p).getD d
theorem firstP_step (p : Int → Bool) (l : List Int) (k : Nat) (h : k < l.length) (d : Int) : firstP p (l.drop k) d = if p (sAt l k) then sAt l k else firstP p (l.drop (k + 1)) d := by
  unfold firstP sAt
  rw [List.drop_eq_getElem_cons h, List.find?_cons, List.getElem?_eq_getElem h]
  show _ = if p l[k] then l[k] else _
  cases p l[k] <;> rfl

set_option maxHeartbeats 1000000 in
set_option maxRecDepth 100000 in
theorem first_any (g : Nat) (lb : Array Value) (p : Int → Bool) (D : Nat → Prop) (v : Value) (l : List Int) (d : Int) (w : World) (hE : ∀ args w, (callFunc g args).run Try.prog w = .ok (.enter g args) w) (hv : Ints D w v l)
    (hO : ∀ W, Pure w W → ∀ i, i < l.length → Calls Try.prog g (#[.int .i64 (sAt l i)] ++ lb) W fun e w' => e = .returned (.bool (p (sAt l i))) ∧ Pure W w') :
    Calls Try.prog 82 #[.int .i64 d, v, .func (.func g) #[] lb] w fun e w' => e = .returned (.int .i64 (firstP p l d)) ∧ Pure w w' := by
  obtain ⟨a, len, cap, rfl, hlen, _, hm, hc⟩ := hv
  have HL := Lib.hid hlen; have HC := Lib.hid hc; have HO := Lib.hid hO; have HE := Lib.hid hE
  clear hlen hc hO
  go_enter Try.func82, Try.ntmps82
  go_wp2_with fail
  go_loopw [11] (fun i wr => ∃ k : Nat, k ≤ len ∧ i = .int .i64 k ∧ Hid (firstP p l d = firstP p (l.drop k) d) ∧ Hid (Pure w wr)) (fun i _ => len - (intOf i).toNat)
  case atStart => exact ⟨0, Nat.zero_le _, rfl, Lib.hid (by simp), Lib.hid (Only.refl _ _)⟩
  case round =>
    obtain ⟨k, hk, rfl, hI, hP⟩ := hrel
    by_cases hlt : k < len
    · obtain ⟨b, off, rfl, _, c0⟩ := HC.out k hlt
      have hstep := Lib.hid (firstP_step p l k (by rw [← HL.out]; exact hlt) d)
      have k0 := hP.out.cell c0 (fun f => f)
      have hcl := HO.out wr hP.out k (by rw [← HL.out]; exact hlt)
      have hsa : l[k]?.getD 0 = sAt l k := rfl
      rw [hsa] at k0
      obtain ⟨x, hx⟩ : ∃ x, sAt l k = x := ⟨_, rfl⟩
      rw [hx] at k0 hstep hcl
      obtain ⟨z, hz⟩ : ∃ z, p x = z := ⟨_, rfl⟩
      rw [hz] at hcl hstep
      have HCL := Lib.hid hcl
      clear hz c0 hx hcl hsa
      go_wp2_with fail
      refine HCL.out.mono ?_
      rintro e w2 ⟨rfl, P2⟩
      have HP2 := Lib.hid (hP.out.trans P2)
      clear HCL P2 k0 hP
      cases z with
      | true =>
        go_wp2
        go_ret
        exact ⟨by rw [hI.out, hstep.out]; rfl, HP2.out⟩
      | false =>
        go_wp2
        go_roundw
        case rel => exact ⟨k + 1, by omega, by go_num, Lib.hid (by rw [hI.out, hstep.out]; rfl), HP2⟩
        case measure => simp [intOf]; omega
    · have hk' : l.drop k = [] := List.drop_eq_nil_of_le (by rw [← HL.out]; omega)
      have HX := Lib.hid (show firstP p l d = d from by rw [hI.out, hk']; rfl)
      go_wp2
      go_ret
      exact ⟨by rw [HX.out]; rfl, hP.out⟩

set_option maxHeartbeats 1000000 in
set_option maxRecDepth 100000 in
theorem cross_any (B b mb : Nat) (v : Value) (R : Int) (d : DeskS) (i : Nat) (w : World) (hi : i < 5) (hB : w.cell? ⟨B, 0, none⟩ = some (.pointer (some ⟨b, 0, none⟩))) (hd : DeskAt w b mb v R d) :
    Calls Try.prog 83 #[.int .i64 (i : Int), .pointer (some ⟨B, 0, none⟩)] w fun e w' => e = .returned (.bool (lessB (frAt d.hi i) (frAt d.lo i))) ∧ Pure w w' := by
  obtain ⟨G, hG⟩ : ∃ G : World → Prop, ∀ y, G y ↔ Pure w y := ⟨_, fun _ => Iff.rfl⟩
  have gB : ∀ g' : InG G, g'.world.cell? ⟨B, 0, none⟩ = some (.pointer (some ⟨b, 0, none⟩)) := fun g' => ((hG _).1 g'.holds).cell hB (fun f => f)
  have gl0 : ∀ g' : InG G, g'.world.cell? ⟨b, 2 + i * 2, none⟩ = some (.int .i64 (frAt d.lo i).1) := fun g' => ((hd.pure ((hG _).1 g'.holds)).lo i hi).1
  have gl1 : ∀ g' : InG G, g'.world.cell? ⟨b, 2 + i * 2 + 1, none⟩ = some (.int .i64 (frAt d.lo i).2) := fun g' => ((hd.pure ((hG _).1 g'.holds)).lo i hi).2
  have gh0 : ∀ g' : InG G, g'.world.cell? ⟨b, 12 + i * 2, none⟩ = some (.int .i64 (frAt d.hi i).1) := fun g' => ((hd.pure ((hG _).1 g'.holds)).hi i hi).1
  have gh1 : ∀ g' : InG G, g'.world.cell? ⟨b, 12 + i * 2 + 1, none⟩ = some (.int .i64 (frAt d.hi i).2) := fun g' => ((hd.pure ((hG _).1 g'.holds)).hi i hi).2
  haveI hInh : Inhabited (InG G) := ⟨⟨w, (hG w).2 (Only.refl _ _)⟩⟩
  have MKG := Lib.hid (fun y (h : Pure w y) => (hG y).2 h)
  have hle := fun W => less_any (frAt d.hi i) (frAt d.lo i) W
  have HLE := Lib.hid hle
  clear hG hle hd hB
  go_enter Try.func83, Try.ntmps83
  go_wp2_with fail
  refine any_start G (by kernel_rfl) ?_
  refine any_take [0, 1, 2, 3, 4, 5, 6, 7, 8, 9, 10, 11] (by kernel_rfl) (MKG.out _ (Only.refl _ _).drew) (fun d _ _ _ _ h => by cases d <;> exact h) 2 (by kernel_rfl) ?_
  simp only [picks, List.drop_succ_cons, List.drop_zero, List.take_succ_cons, List.take_zero, List.cons_append, List.nil_append]
  repeat (go_big_quiet_step (fail))
  refine wpQuiet_nil ?_
  refine any_force (i := 12) (by kernel_rfl) rfl ?_
  go_wp2_with fail
  refine (HLE.out _).mono ?_
  rintro e w2 ⟨rfl, P2⟩
  have Q2 := Lib.hid ((Only.refl (fun _ => False) w).drew.trans P2)
  clear P2 gB gl0 gl1 gh0 gh1
  go_wp2_with fail
  refine ⟨MKG.out _ Q2.out, ?_⟩
  refine any_take [13] (by kernel_rfl) (MKG.out _ Q2.out) (fun d _ _ _ _ h => by cases d <;> exact h) 0 (by kernel_rfl) ?_
  simp only [picks, List.drop_succ_cons, List.drop_zero, List.take_succ_cons, List.take_zero, List.cons_append, List.nil_append]
  repeat (go_big_quiet_step (fail))
  refine wpQuiet_nil ?_
  refine any_done (by kernel_rfl) ?_
  go_wp2
  go_ret
  exact ⟨rfl, Q2.out⟩
end Go.Proofs.Ythnjfekkngpbjaa

/- total. -/
namespace Go.Proofs.Ythnjfekkngpbjaa
open Go.RowKit Go.Shelf

theorem info23 : (Try.prog.info? 23).map (fun i => (i.zero, i.size, i.bytes)) = some (some (.agg #[.int .i64 0, .int .i64 0]), 2, 16) := by kernel_rfl
theorem fr_eq (a b : Int) (w : World) (n : Nat) : (Op.equalIn (n + 3) 23 (.agg #[.int .i64 a, .int .i64 b]) (.agg #[.int .i64 0, .int .i64 0])).run Try.prog w = .ok (decide (a = 0 ∧ b = 0)) w := by
  by_cases h : a = 0
  · subst h
    by_cases k : b = 0
    · subst k; simp [go_sem]
    · simp [go_sem, k]
  · simp [go_sem, h]
theorem lim_eq (a b c d e f g h i j : Int) (w : World) :
    (Op.equalIn 10000 113 (.agg #[.int .i64 a, .int .i64 b, .int .i64 c, .int .i64 d, .int .i64 e, .int .i64 f, .int .i64 g, .int .i64 h, .int .i64 i, .int .i64 j]) (.agg #[.int .i64 0, .int .i64 0, .int .i64 0, .int .i64 0, .int .i64 0, .int .i64 0, .int .i64 0, .int .i64 0, .int .i64 0, .int .i64 0])).run Try.prog w
      = .ok (decide ([(a, b), (c, d), (e, f), (g, h), (i, j)] = List.replicate 5 ((0 : Int), (0 : Int)))) w := by
  obtain ⟨i0, hi, hz0, hz1, hz2⟩ := info_parts info23
  refine (run_equalIn_array w 9999 _ _ Try.underlying113 hi).trans ?_
  have hl : List.range 5 = [0, 1, 2, 3, 4] := rfl
  have hc : Try.prog.cellsOf 23 = 2 := by kernel_rfl
  rw [hl, hc]
  have p0 : (part 23 #[.int .i64 a, .int .i64 b, .int .i64 c, .int .i64 d, .int .i64 e, .int .i64 f, .int .i64 g, .int .i64 h, .int .i64 i, .int .i64 j] 0).run Try.prog w = .ok (.agg #[.int .i64 a, .int .i64 b]) w := by kernel_rfl
  have z0 : (part 23 #[.int .i64 0, .int .i64 0, .int .i64 0, .int .i64 0, .int .i64 0, .int .i64 0, .int .i64 0, .int .i64 0, .int .i64 0, .int .i64 0] 0).run Try.prog w = .ok (.agg #[.int .i64 0, .int .i64 0]) w := by kernel_rfl
  have p1 : (part 23 #[.int .i64 a, .int .i64 b, .int .i64 c, .int .i64 d, .int .i64 e, .int .i64 f, .int .i64 g, .int .i64 h, .int .i64 i, .int .i64 j] 2).run Try.prog w = .ok (.agg #[.int .i64 c, .int .i64 d]) w := by kernel_rfl
  have z1 : (part 23 #[.int .i64 0, .int .i64 0, .int .i64 0, .int .i64 0, .int .i64 0, .int .i64 0, .int .i64 0, .int .i64 0, .int .i64 0, .int .i64 0] 2).run Try.prog w = .ok (.agg #[.int .i64 0, .int .i64 0]) w := by kernel_rfl
  have p2 : (part 23 #[.int .i64 a, .int .i64 b, .int .i64 c, .int .i64 d, .int .i64 e, .int .i64 f, .int .i64 g, .int .i64 h, .int .i64 i, .int .i64 j] 4).run Try.prog w = .ok (.agg #[.int .i64 e, .int .i64 f]) w := by kernel_rfl
  have z2 : (part 23 #[.int .i64 0, .int .i64 0, .int .i64 0, .int .i64 0, .int .i64 0, .int .i64 0, .int .i64 0, .int .i64 0, .int .i64 0, .int .i64 0] 4).run Try.prog w = .ok (.agg #[.int .i64 0, .int .i64 0]) w := by kernel_rfl
  have p3 : (part 23 #[.int .i64 a, .int .i64 b, .int .i64 c, .int .i64 d, .int .i64 e, .int .i64 f, .int .i64 g, .int .i64 h, .int .i64 i, .int .i64 j] 6).run Try.prog w = .ok (.agg #[.int .i64 g, .int .i64 h]) w := by kernel_rfl
  have z3 : (part 23 #[.int .i64 0, .int .i64 0, .int .i64 0, .int .i64 0, .int .i64 0, .int .i64 0, .int .i64 0, .int .i64 0, .int .i64 0, .int .i64 0] 6).run Try.prog w = .ok (.agg #[.int .i64 0, .int .i64 0]) w := by kernel_rfl
  have p4 : (part 23 #[.int .i64 a, .int .i64 b, .int .i64 c, .int .i64 d, .int .i64 e, .int .i64 f, .int .i64 g, .int .i64 h, .int .i64 i, .int .i64 j] 8).run Try.prog w = .ok (.agg #[.int .i64 i, .int .i64 j]) w := by kernel_rfl
  have z4 : (part 23 #[.int .i64 0, .int .i64 0, .int .i64 0, .int .i64 0, .int .i64 0, .int .i64 0, .int .i64 0, .int .i64 0, .int .i64 0, .int .i64 0] 8).run Try.prog w = .ok (.agg #[.int .i64 0, .int .i64 0]) w := by kernel_rfl
  obtain ⟨u0, hu0⟩ : ∃ u, decide (a = 0 ∧ b = 0) = u := ⟨_, rfl⟩
  have q0 := fr_eq a b w 9996
  rw [hu0] at q0
  obtain ⟨u1, hu1⟩ : ∃ u, decide (c = 0 ∧ d = 0) = u := ⟨_, rfl⟩
  have q1 := fr_eq c d w 9996
  rw [hu1] at q1
  obtain ⟨u2, hu2⟩ : ∃ u, decide (e = 0 ∧ f = 0) = u := ⟨_, rfl⟩
  have q2 := fr_eq e f w 9996
  rw [hu2] at q2
  obtain ⟨u3, hu3⟩ : ∃ u, decide (g = 0 ∧ h = 0) = u := ⟨_, rfl⟩
  have q3 := fr_eq g h w 9996
  rw [hu3] at q3
  obtain ⟨u4, hu4⟩ : ∃ u, decide (i = 0 ∧ j = 0) = u := ⟨_, rfl⟩
  have q4 := fr_eq i j w 9996
  rw [hu4] at q4
  have hd : decide ([(a, b), (c, d), (e, f), (g, h), (i, j)] = List.replicate 5 ((0 : Int), (0 : Int))) = (u0 && (u1 && (u2 && (u3 && u4)))) := by
    rw [← hu0, ← hu1, ← hu2, ← hu3, ← hu4, Bool.eq_iff_iff]; simp [List.replicate]
  rw [hd]
  clear hd hu0 hu1 hu2 hu3 hu4
  cases u0
  · simp [Op.eqItems, p0, z0, q0, p1, z1, q1, p2, z2, q2, p3, z3, q3, p4, z4, q4]
  cases u1
  · simp [Op.eqItems, p0, z0, q0, p1, z1, q1, p2, z2, q2, p3, z3, q3, p4, z4, q4]
  cases u2
  · simp [Op.eqItems, p0, z0, q0, p1, z1, q1, p2, z2, q2, p3, z3, q3, p4, z4, q4]
  cases u3
  · simp [Op.eqItems, p0, z0, q0, p1, z1, q1, p2, z2, q2, p3, z3, q3, p4, z4, q4]
  cases u4 <;> simp [Op.eqItems, p0, z0, q0, p1, z1, q1, p2, z2, q2, p3, z3, q3, p4, z4, q4]
end Go.Proofs.Ythnjfekkngpbjaa

/- total. -/
namespace Go.Proofs.Ythnjfekkngpbjaa
open Go.RowKit Go.Shelf

set_option maxRecDepth 100000 in
theorem lim_len : Try.prog.arrayLen 113 = 5 := by kernel_rfl
set_option maxRecDepth 100000 in
theorem lim_slice (B o R : Nat) (hR : R ≤ 5) (W : World) : (Instr.sliceAt 113 (.pointer (some ⟨B, o, none⟩)) none (some (.int .i64 (R : Int))) none).run Try.prog W = .ok (.slice (some ⟨B, o, none⟩) R 5) W := by
  rw [run_sliceAt_array_h (P := Try.prog) W 113 ⟨B, o, none⟩ Try.underlying113 .i64 (R : Int) (by omega) (by rw [lim_len]; omega)]
  have h : (sizeOf (Try.prog.elem 113)).run Try.prog W = .ok 2 W := by kernel_rfl
  rw [h]
  simp [slicedAt, lim_len, Addr.add]
theorem totalTo_succ (l : List Fr) (k : Nat) : totalTo l (k + 1) = plusF (totalTo l k) (frAt l k) := by unfold totalTo; rw [List.range_succ, List.foldl_append]; rfl
theorem total_den {l : List Fr} {R : Nat} (hR : R ≤ 5) (h : ∀ i, i < R → Den 200 (frAt l i).2) : ∀ k, k ≤ R → Den (200 ^ k) (totalTo l k).2
  | 0, _ => by show Den 1 1; exact ⟨by decide, by decide⟩
  | k + 1, hk => by
    rw [totalTo_succ, Nat.pow_succ]
    refine plus_den (total_den hR h k (by omega)) (h k (by omega)) ?_
    rcases (by omega : k = 0 ∨ k = 1 ∨ k = 2 ∨ k = 3 ∨ k = 4) with rfl | rfl | rfl | rfl | rfl <;> decide
theorem total_mul {l : List Fr} {R : Nat} (hR : R ≤ 5) (h : ∀ i, i < R → Den 200 (frAt l i).2) (k : Nat) (hk : k < R) : wrap64 ((totalTo l k).2 * (frAt l k).2) ≠ 0 := by
  refine ((total_den hR h k (by omega)).mul (h k hk) ?_).1
  rcases (by omega : k = 0 ∨ k = 1 ∨ k = 2 ∨ k = 3 ∨ k = 4) with rfl | rfl | rfl | rfl | rfl <;> decide
theorem lims_at {w : World} {B : Nat} {l : List Fr} {T : TypeId} (h5 : l.length = 5) (h : w.heap[B]? = some (.cells (l.flatMap pairC).toArray T)) (i : Nat) (hi : i < 5) : w.cell? ⟨B, i * 2, none⟩ = some (.int .i64 (frAt l i).1) ∧ w.cell? ⟨B, i * 2 + 1, none⟩ = some (.int .i64 (frAt l i).2) := by
  rw [cell_of_row _ _ _ _ _ _ h, cell_of_row _ _ _ _ _ _ h]
  obtain ⟨a0, a1, a2, a3, a4, rfl⟩ := five h5
  rcases (by omega : i = 0 ∨ i = 1 ∨ i = 2 ∨ i = 3 ∨ i = 4) with rfl | rfl | rfl | rfl | rfl <;> simp [pairC, frAt]

set_option maxHeartbeats 2000000 in
set_option maxRecDepth 100000 in
theorem total_any (b mb : Nat) (v : Value) (R : Nat) (d : DeskS) (l : List Fr) (w : World) (h5 : l.length = 5) (hR : R ≤ 5) (hden : ∀ i, i < R → Den 200 (frAt l i).2) (hd : DeskAt w b mb v R d) :
    Calls Try.prog 84 #[.pointer (some ⟨b, 0, none⟩), .agg (l.flatMap pairC).toArray] w fun e w' => e = .returned (Value.agg #[Value.int IntKind.i64 (Prod.fst ((totalOf l R))), Value.int IntKind.i64 (Prod.snd ((totalOf l R)))]) ∧ Pure w w' := by
  have hmul := total_mul hR hden
  obtain ⟨w3, hw3⟩ : ∃ x, x = ((w.alloc (.cells (l.flatMap pairC).toArray 113)).alloc (.cells #[.int .i64 0, .int .i64 0] 23)).alloc (.cells #[.int .i64 0, .int .i64 1] 23) := ⟨_, rfl⟩
  have hP3 : Pure w w3 := by rw [hw3]; exact lay_pure [_, _, _] w
  have k0 : w3.heap[w.heap.size]? = some (.cells (l.flatMap pairC).toArray 113) := by rw [hw3]; exact lay_row [_, _, _] w 0 _ rfl
  have k1 : w3.heap[w.heap.size + 1]? = some (.cells #[.int .i64 0, .int .i64 0] 23) := by rw [hw3]; exact lay_row [_, _, _] w 1 _ rfl
  have k2 : w3.heap[w.heap.size + 1 + 1]? = some (.cells #[.int .i64 0, .int .i64 1] 23) := by rw [hw3]; exact lay_row [_, _, _] w 2 _ rfl
  have hlim := fun W (hW : w3.heap[w.heap.size]? = W.heap[w.heap.size]?) => lims_at (w := W) h5 (hW.symm.trans k0)
  have hrun := (hd.pure hP3).runners
  obtain ⟨⟨a0, b0⟩, ⟨a1, b1⟩, ⟨a2, b2⟩, ⟨a3, b3⟩, ⟨a4, b4⟩, hl⟩ := five h5
  have heq := fun W => lim_eq a0 b0 a1 b1 a2 b2 a3 b3 a4 b4 W
  rw [← hl] at heq
  obtain ⟨z, hz⟩ : ∃ z, decide (l = List.replicate 5 ((0 : Int), (0 : Int))) = z := ⟨_, rfl⟩
  simp only [hz] at heq
  have htot : totalOf l R = if z then (0, 1) else totalTo l R := by
    unfold totalOf
    cases z
    · rw [if_neg (by simpa using hz)]; rfl
    · rw [if_pos (by simpa using hz)]; rfl
  rw [htot]
  have hflat : (l.flatMap pairC).toArray = #[.int .i64 a0, .int .i64 b0, .int .i64 a1, .int .i64 b1, .int .i64 a2, .int .i64 b2, .int .i64 a3, .int .i64 b3, .int .i64 a4, .int .i64 b4] := by rw [hl]; rfl
  rw [hflat] at hw3 k0 ⊢
  have HW := Lib.hid hw3; have HP := Lib.hid hP3; have K0 := Lib.hid k0; have K1 := Lib.hid k1; have K2 := Lib.hid k2; have HLIM := Lib.hid hlim; have HMUL := Lib.hid hmul
  rw [hw3] at hrun
  clear hw3 hP3 k0 k1 k2 hlim hmul hl hz htot hflat h5 hden hd
  have hsl := fun W => lim_slice w.heap.size 0 R hR W
  cases z
  · go_enter Try.func84, Try.ntmps84
    go_wp2_with fail
    rw [← HW.out]
    go_loopw [20] (fun i wr => ∃ k : Nat, k ≤ R ∧ i = .int .i64 k ∧ Hid (wr.heap[w.heap.size + 1 + 1]? = some (.cells #[.int .i64 (totalTo l k).1, .int .i64 (totalTo l k).2] 23)) ∧ Hid (Only (fun q => q = w.heap.size + 1 + 1) w3 wr)) (fun i _ => R - (intOf i).toNat)
    case atStart => exact ⟨0, Nat.zero_le _, rfl, K2, Lib.hid (Only.refl _ _)⟩
    case round =>
      clear hrun
      obtain ⟨k, hk, rfl, hrow, hO⟩ := hrel
      by_cases hlt : k < R
      · have k0 := hO.out.heap K0.out (by omega)
        obtain ⟨y0, y1⟩ := HLIM.out wr (K0.out.trans k0.symm) k (by omega)
        have hs := totalTo_succ l k
        have hmul := HMUL.out k hlt
        obtain ⟨u, hu⟩ : ∃ u, frAt l k = u := ⟨_, rfl⟩
        obtain ⟨o, ho⟩ : ∃ o, totalTo l k = o := ⟨_, rfl⟩
        rw [hu] at y0 y1 hs hmul
        rw [ho] at hrow hs hmul
        have hpl := fun W => plus_any o u W hmul
        obtain ⟨X, hX⟩ : ∃ X, plusF o u = X := ⟨_, rfl⟩
        simp only [hX] at hpl
        rw [hX] at hs
        obtain ⟨w7, hw7⟩ : ∃ x, x = wr.alloc (.cells #[.int .i64 u.1, .int .i64 u.2] 23) := ⟨_, rfl⟩
        have P7 : Pure wr w7 := by rw [hw7]; exact (Only.refl _ wr).alloc _
        have r7 : w7.heap[wr.heap.size]? = some (.cells #[.int .i64 u.1, .int .i64 u.2] 23) := by rw [hw7]; exact World.alloc_heap_new wr _
        have r5 := P7.heap hrow.out (fun f => f)
        obtain ⟨m0, m1, _⟩ := read23 r7
        obtain ⟨n0, n1, _⟩ := read23 r5
        have HW7 := Lib.hid hw7; have HP7 := Lib.hid P7; have R5 := Lib.hid r5; have HPL := Lib.hid hpl; have HS := Lib.hid hs
        rw [hw7] at m0 m1 n0 n1
        clear hw7 P7 r7 r5 hpl hs hmul hX hu ho k0
        go_wp2_with fail
        refine (HPL.out _).mono ?_
        rw [← HW7.out]
        rintro e w8 ⟨rfl, P8⟩
        have r8 := P8.heap R5.out (fun f => f)
        obtain ⟨d0, d1, fr⟩ := read23 r8
        obtain ⟨s9, _, _, hO9⟩ := cell23 r8 X.1 X.2
        have HF := Lib.hid (And.intro s9 ((hO.out.trans ((HP7.out.trans P8).mono (fun _ _ f => f.elim))).trans hO9))
        clear P8 r8 s9 hO9 m0 m1 n0 n1 y0 y1
        go_wp2_with fail
        go_roundw
        case rel => exact ⟨k + 1, by omega, by go_num, Lib.hid (by rw [HS.out]; exact HF.out.1), Lib.hid HF.out.2⟩
        case measure => simp [intOf]; omega
      · obtain rfl : R = k := by omega
        have k1 := hO.out.heap K1.out (by omega)
        obtain ⟨T, hT⟩ : ∃ T, totalTo l R = T := ⟨_, rfl⟩
        rw [hT] at hrow
        obtain ⟨n0, n1, _⟩ := read23 hrow.out
        obtain ⟨d0, d1, fr⟩ := read23 k1
        obtain ⟨_, c0, c1, hO9⟩ := cell23 k1 T.1 T.2
        have HZ := Lib.hid ((HP.out.trans' hO.out (fun i hi e => by omega)).trans' hO9 (fun i hi e => by omega))
        have HT := Lib.hid hT
        clear hO9 hT k1
        go_wp2_with fail
        refine bodyPost_ret (v := (Value.agg #[Value.int IntKind.i64 (Prod.fst (T)), Value.int IntKind.i64 (Prod.snd (T))])) ?_ rfl ⟨by rw [← HT.out]; try rfl, HZ.out⟩
        simp [results, Try.f84, go_sem, c0, c1]
  · obtain ⟨n0, n1, _⟩ := read23 K2.out
    obtain ⟨d0, d1, fr⟩ := read23 K1.out
    have HZ := Lib.hid (lay_pure [.cells #[.int .i64 a0, .int .i64 b0, .int .i64 a1, .int .i64 b1, .int .i64 a2, .int .i64 b2, .int .i64 a3, .int .i64 b3, .int .i64 a4, .int .i64 b4] 113, .cells #[.int .i64 0, .int .i64 1] 23, .cells #[.int .i64 0, .int .i64 1] 23] w)
    rw [HW.out] at n0 n1 d0 d1 fr
    go_enter Try.func84, Try.ntmps84
    go_wp2_with fail
    refine bodyPost_ret (v := (Value.agg #[Value.int IntKind.i64 (Prod.fst (((0, 1) : Fr))), Value.int IntKind.i64 (Prod.snd (((0, 1) : Fr)))])) ?_ rfl ⟨rfl, HZ.out⟩
    have e0 := lay_row [.cells #[.int .i64 a0, .int .i64 b0, .int .i64 a1, .int .i64 b1, .int .i64 a2, .int .i64 b2, .int .i64 a3, .int .i64 b3, .int .i64 a4, .int .i64 b4] 113, .cells #[.int .i64 0, .int .i64 1] 23, .cells #[.int .i64 0, .int .i64 1] 23] w 1 _ rfl
    obtain ⟨c0, c1, _⟩ := read23 e0
    simp only [lay] at c0 c1
    simp [results, Try.f84, go_sem, c0, c1]
end Go.Proofs.Ythnjfekkngpbjaa

/- The desk of a market: what its limits and its map hold. -/
namespace Go.Proofs.Ythnjfekkngpbjaa
open Go.RowKit Go.Shelf

structure DeskOK (d : DeskS) (R n : Nat) : Prop where
  l5 : d.lo.length = 5
  h5 : d.hi.length = 5
  lo : ∀ i, i < R → Den 200 (frAt d.lo i).2
  hi : ∀ i, i < R → Den 200 (frAt d.hi i).2
  by_ : ∀ s x, d.by_ s = some x → 0 ≤ s.1 ∧ s.1 < R ∧ 0 ≤ x ∧ x < n
theorem xOf_den {q : Quote} (h1 : 0 ≤ q.num) (h2 : q.num ≤ 190) (h3 : 1 ≤ q.den) (h4 : q.den ≤ 10) : Den 200 (xOf q).2 := by
  have h : wrap64 (q.den + q.num) = q.den + q.num := by unfold wrap64; omega
  unfold xOf; rw [h]
  exact frac_den _ ⟨by omega, by omega⟩ (by decide)
theorem frAt_set (l : List Fr) (i j : Nat) (x : Fr) (hi : i < l.length) : frAt (l.set i x) j = if i = j then x else frAt l j := by
  unfold frAt
  rw [List.getElem?_set]
  by_cases h : i = j
  · subst h; simp [hi]
  · simp [h]
theorem deskOK_step {d : DeskS} {R n k : Nat} {q : Quote} (hd : DeskOK d R n) (hR : R ≤ 5) (hk : k < n) (h0 : 0 ≤ q.runner) (h1 : q.runner < R) (h2 : 0 ≤ q.num) (h3 : q.num ≤ 190) (h4 : 1 ≤ q.den) (h5 : q.den ≤ 10) : DeskOK (deskStep d k q) R n := by
  have hx := xOf_den h2 h3 h4 h5
  obtain ⟨i, hi⟩ : ∃ i : Nat, q.runner = i := ⟨q.runner.toNat, by omega⟩
  have hset : ∀ l : List Fr, l.length = 5 → (∀ j, j < R → Den 200 (frAt l j).2) → ∀ j, j < R → Den 200 (frAt (l.set q.runner.toNat (xOf q)) j).2 := fun l hl h j hj => by
    rw [frAt_set _ _ _ _ (by omega)]
    split
    · exact hx
    · exact h j hj
  have hby : ∀ s x, (if s = (q.runner, q.lay) then some (k : Int) else d.by_ s) = some x → 0 ≤ s.1 ∧ s.1 < R ∧ 0 ≤ x ∧ x < n := fun s x h => by
    split at h
    · rename_i hs; cases h; subst hs; exact ⟨h0, h1, by omega, by omega⟩
    · exact hd.by_ s x h
  unfold deskStep
  split
  · exact ⟨by simp [hd.l5], hd.h5, hset _ hd.l5 hd.lo, hd.hi, hby⟩
  · split
    · exact ⟨hd.l5, by simp [hd.h5], hd.lo, hset _ hd.h5 hd.hi, hby⟩
    · exact hd
theorem deskOK (m : Market) (hm : checkMarket m = 0) : DeskOK (deskOf m) m.runners.toNat m.quotes.length := by
  obtain ⟨r1, r5, l12, hqs⟩ := market_zero hm
  have h : ∀ k, k ≤ m.quotes.length → DeskOK (deskTo m k) m.runners.toNat m.quotes.length := by
    intro k
    induction k with
    | zero =>
      intro _
      have e : deskTo m 0 = deskK m.runners.toNat := desk0_K m (by omega)
      rw [e]
      refine ⟨rfl, rfl, fun i hi => ?_, fun i hi => ?_, fun s x h => by cases h⟩
      all_goals
        have h5 : i < 5 := by omega
        have h6 : (i : Int) < m.runners := by omega
        simp [deskK, frAt, h5, h6, hi, Den]
    | succ k ih =>
      intro hk
      rw [deskTo_succ]
      obtain ⟨p1, p2, p3, p4, p5, p6⟩ := hqs k (by omega)
      exact deskOK_step (ih (by omega)) (by omega) (by omega) p1 (by omega) p3 p4 p5 p6
  exact h _ (Nat.le_refl _)

def numsTo (k : Nat) : List Int := (List.range k).map fun (i : Nat) => (i : Int)
theorem numsTo_succ (k : Nat) : numsTo (k + 1) = numsTo k ++ [(k : Int)] := by simp [numsTo, List.range_succ]
theorem numsTo_len (k : Nat) : (numsTo k).length = k := by simp [numsTo]
theorem numsTo_at (k i : Nat) (h : i < k) : sAt (numsTo k) i = i := by simp [sAt, numsTo, h]
def crossP (d : DeskS) (i : Int) : Bool := lessB (frAt d.hi i.toNat) (frAt d.lo i.toNat)
theorem findNat (p : Int → Bool) : ∀ l : List Nat, ((l.map fun (i : Nat) => (i : Int)).find? p) = (l.find? (fun (i : Nat) => p (i : Int))).map (fun (i : Nat) => (i : Int))
  | [] => rfl
  | a :: l => by
    simp only [List.map_cons, List.find?_cons, findNat p l]
    cases p (a : Int) <;> rfl
theorem cross_first (d : DeskS) (R : Nat) : firstP (crossP d) (numsTo R) (-1) = match crossedAt d R with | some r => (r : Int) | none => -1 := by
  unfold firstP numsTo crossedAt
  rw [findNat]
  have e : (fun i : Nat => crossP d (i : Int)) = fun r => lessB (frAt d.hi r) (frAt d.lo r) := by
    funext i; unfold crossP; rw [Int.toNat_natCast]
  rw [e]
  cases (List.range R).find? _ <;> rfl
theorem crossed_lt {d : DeskS} {R r : Nat} (h : crossedAt d R = some r) : r < R := by
  unfold crossedAt at h
  have := List.mem_of_find?_eq_some h
  simpa using this
end Go.Proofs.Ythnjfekkngpbjaa

/- chances: the plain laws. -/
namespace Go.Proofs.Ythnjfekkngpbjaa
open Go.RowKit

theorem frAt_den {l : List Fr} (h : ∀ x, x ∈ l → Den 200 x.2) (i : Nat) (hi : i < l.length) : Den 200 (frAt l i).2 := by
  unfold frAt; rw [List.getElem?_eq_getElem hi]; exact h _ (List.getElem_mem _)
theorem set_den {l : List Fr} {x : Fr} (h : ∀ i, i < l.length → Den 200 (frAt l i).2) (r : Nat) (hr : r < l.length) (hx : Den 200 x.2) : ∀ i, i < (l.set r x).length → Den 200 (frAt (l.set r x) i).2 := fun i hi => by
  rw [frAt_set _ _ _ _ hr]
  rw [List.length_set] at hi
  split
  · exact hx
  · exact h i hi
theorem one_den : Den 200 ((0, 1) : Fr).2 := ⟨by decide, by decide⟩
/-- The denominators of what the others sum up to, and of what is left. -/
theorem others_den {own : List Fr} (h5 : own.length ≤ 5) (h : ∀ i, i < own.length → Den 200 (frAt own i).2) : Den (200 ^ 5) (othersF own).2 := by
  have h1 := total_den h5 h own.length (Nat.le_refl _)
  refine Den.mono h1 ?_
  rcases (by omega : own.length = 0 ∨ own.length = 1 ∨ own.length = 2 ∨ own.length = 3 ∨ own.length = 4 ∨ own.length = 5) with e | e | e | e | e | e <;> rw [e] <;> decide
theorem left_den {o : Fr} (h : Den (200 ^ 5) o.2) : Den (200 ^ 5) (plusF (1, 1) (wrap64 (-o.1), o.2)).2 := by
  have := plus_den (A := 1) (B := 200 ^ 5) (a := (1, 1)) (b := (wrap64 (-o.1), o.2)) ⟨by decide, by decide⟩ h (by decide)
  simpa using this
theorem left_mul {o : Fr} (h : Den (200 ^ 5) o.2) : wrap64 (((1, 1) : Fr).2 * (wrap64 (-o.1), o.2).2) ≠ 0 := (Den.mul (A := 1) (B := 200 ^ 5) ⟨by decide, by decide⟩ h (by decide)).1
theorem chStep_den {d : DeskS} {own : List Fr} {r : Nat} (h5 : own.length ≤ 5) (h : ∀ i, i < own.length → Den 200 (frAt own i).2) (hr : r < own.length) (hh : Den 200 (frAt d.hi r).2) :
    (chStep d own r).1.length = own.length ∧ (∀ i, i < own.length → Den (200 ^ 5) (frAt (chStep d own r).1 i).2) ∧ ((chStep d own r).2 = false → ∀ i, i < own.length → Den 200 (frAt (chStep d own r).1 i).2) := by
  have h1 := set_den h r hr one_den
  have ho := others_den (own := own.set r (0, 1)) (by simpa using h5) h1
  have hl := left_den ho
  have hlen : (own.set r (0, 1)).length = own.length := by simp
  unfold chStep
  dsimp only
  split
  · refine ⟨by simp, fun i hi => ?_, fun h => by cases h⟩
    rw [frAt_set _ _ _ _ (by rw [hlen]; exact hr)]
    split
    · exact hl
    · exact Den.mono (h1 i (by rw [hlen]; exact hi)) (by decide)
  · have h2 := set_den h1 r (by rw [hlen]; exact hr) hh
    refine ⟨by simp, fun i hi => Den.mono (h2 i (by simpa using hi)) (by decide), fun _ i hi => h2 i (by simpa using hi)⟩
end Go.Proofs.Ythnjfekkngpbjaa

/- copy of elements of several cells. -/
namespace Go.Proofs.Ythnjfekkngpbjaa
open Go.RowKit

theorem run_copy_rows {P : Program} (w : World) (dT sT ty elem : TypeId) (s g dLen dCap : Nat) (a : Addr) (sLen sCap : Nat) (cur : Array Value) (t : TypeId) (cs : List Value)
    (hu : P.underlying dT = some (.slice elem)) (hs : (P.info? elem).map (·.size) = some s)
    (hg : w.heap[g]? = some (.cells cur t (0, 0))) (hn : cs.length = Nat.min sLen dLen * s)
    (hsrc : ∀ j v, cs[j]? = some v → w.cell? (a.add j) = some v) (hfit : cs.length ≤ cur.size) (h1 : ∀ v ∈ cs, v.oneCell' = true) :
    (Builtin.copy_ #[dT, sT] ty #[.slice (some ⟨g, 0, none⟩) dLen dCap, .slice (some a) sLen sCap]).run P w =
      .ok (goInt (Nat.min sLen dLen)) (w.setRow g (cs ++ cur.toList.drop cs.length).toArray) := by
  have hl := run_loadCells_list (P := P) w a cs hsrc
  have hst := run_storeCells_at P g 0 t cs 0 cur w hg (by simpa using hfit) h1
  cases hq : P.info? elem with
  | none => simp [hq] at hs
  | some i =>
    have hi : i.size = s := by simpa [hq] using hs
    simp only [Nat.zero_add, List.take_zero, List.nil_append] at hst
    rw [hn] at hl
    simp [Builtin.copy_, run_underlying hu, Builtin.lenOf, Builtin.firstCells, sizeOf, typeInfo, hq, hi, hl, hst]
theorem flat_set : ∀ (L : List Fr) (i : Nat) (x : Fr), i < L.length → ((L.flatMap pairC).set (i * 2) (.int .i64 x.1)).set (i * 2 + 1) (.int .i64 x.2) = (L.set i x).flatMap pairC
  | [], _, _, h => by simp at h
  | a :: L, 0, x, _ => by simp [pairC]
  | a :: L, i + 1, x, h => by
    have ih := flat_set L i x (by simpa using h)
    have e : (i + 1) * 2 = i * 2 + 1 + 1 := by omega
    rw [e]
    simp only [List.flatMap_cons, List.set_cons_succ, pairC, List.cons_append, List.nil_append]
    rw [← ih]
/-- A row of fractions. -/
def FrRow (w : World) (B : Nat) (L : List Fr) : Prop := w.heap[B]? = some (.cells (L.flatMap pairC).toArray 23 (0, 0))
theorem FrRow.at_ {w : World} {B : Nat} {L : List Fr} (h : FrRow w B L) (i : Nat) (hi : i < L.length) : w.cell? ⟨B, i * 2, none⟩ = some (.int .i64 (frAt L i).1) ∧ w.cell? ⟨B, i * 2 + 1, none⟩ = some (.int .i64 (frAt L i).2) := by
  have g0 := flat_get pairC 2 L (fun _ _ => rfl) i 0 hi (by decide)
  have g1 := flat_get pairC 2 L (fun _ _ => rfl) i 1 hi (by decide)
  have e : frAt L i = L[i] := by unfold frAt; rw [List.getElem?_eq_getElem hi]; rfl
  rw [cell_of_row _ _ _ _ _ _ h, cell_of_row _ _ _ _ _ _ h, e]
  refine ⟨?_, ?_⟩
  · rw [List.getElem?_toArray]; exact g0
  · rw [List.getElem?_toArray]; exact g1
theorem FrRow.frozen {w : World} {B : Nat} {L : List Fr} (h : FrRow w B L) : ∀ j, w.frozen? ⟨B, j, none⟩ = false := fun j => arr_frozen h j
theorem FrRow.keep {w w' : World} {S : Nat → Prop} {B : Nat} {L : List Fr} (h : FrRow w B L) (ho : Only S w w') (hs : ¬ S B) : FrRow w' B L := ho.heap h hs
theorem FrRow.set {w : World} {B : Nat} {L : List Fr} (h : FrRow w B L) (i : Nat) (hi : i < L.length) (x : Fr) :
    FrRow ((w.setCell ⟨B, i * 2, none⟩ (.int .i64 x.1)).setCell ⟨B, i * 2 + 1, none⟩ (.int .i64 x.2)) B (L.set i x) ∧ Only (fun k => k = B) w ((w.setCell ⟨B, i * 2, none⟩ (.int .i64 x.1)).setCell ⟨B, i * 2 + 1, none⟩ (.int .i64 x.2)) := by
  have s1 := heap_setCell_same _ _ (i * 2) _ _ (.int .i64 x.1) h
  have s2 := heap_setCell_same _ _ (i * 2 + 1) _ _ (.int .i64 x.2) s1
  refine ⟨?_, ((Only.refl (fun k => k = B) w).setCell (p := ⟨B, i * 2, none⟩) (.inl rfl) _).setCell (p := ⟨B, i * 2 + 1, none⟩) (.inl rfl) _⟩
  unfold FrRow
  rw [s2]
  have := flat_set L i x hi
  simp only [List.setIfInBounds_toArray, this]
end Go.Proofs.Ythnjfekkngpbjaa

/- A region that draws its order: an operation that must come next, written out (for laws that look at its text). -/
namespace Go.Proofs.Ythnjfekkngpbjaa
open Go.RowKit
section
variable {P : Program} {ops : Array Oper} {Q : Exit → Act → World → Prop}
theorem any_forceP {G : World → Prop} (i : Nat) {f : Nat} {listed : Array Bool} {a : Act} {w : World} (hr : Region.ready .any ops listed = [i])
    (h : wpList P ops (fun e a' w' => match e with
      | .normal => G w' ∧ AnyC P ops G Q f (listed.setIfInBounds i true) a' w'
      | e => Q e a' w') (picks ops.toList [i]) a w) : AnyC P ops G Q (f + 1) listed a w := by
  have hm : i ∈ Region.ready .any ops listed := by rw [hr]; exact List.mem_singleton.2 rfl
  obtain ⟨_, o, ho, _⟩ := mem_ready.1 hm
  refine any_force hr ho ?_
  simp only [picks, take_drop_one _ _ _ (show ops.toList[i]? = some o by rw [Array.getElem?_toList]; exact ho), List.append_nil] at h
  exact h
end
end Go.Proofs.Ythnjfekkngpbjaa

