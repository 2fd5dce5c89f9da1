/-
  most.
-/
import Derived.Test.YtcephfmafmmilaaLv
import Derived.Test.YtcephfmafmmilaaMixedg
import Derived.Test.YtcephfmafmmilaaRound
namespace Go.Proofs.Ytcephfmafmmilaa
open Go.RowKit Go.Shelf
attribute [local go_sem] Oper.semAt_some

theorem key_build (x : Int) (w : World) : (Instr.build 95 #[(0, .int .i64 x)]).run Try.prog w = .ok (.agg #[.int .i64 x]) w := by kernel_rfl

theorem box_two (w : World) (u v : Value) (s t : TypeId) : ((w.alloc (.cells #[u] s)).alloc (.cells #[v] t)).cell? ⟨w.heap.size, 0, none⟩ = some u ∧ ((w.alloc (.cells #[u] s)).alloc (.cells #[v] t)).cell? ⟨w.heap.size + 1, 0, none⟩ = some v := by
  have h1 := World.alloc_heap_new w (.cells #[u] s)
  have h2 := World.alloc_heap_new (w.alloc (.cells #[u] s)) (.cells #[v] t)
  simp only [World.size_alloc] at h2
  exact ⟨cell_of_row _ _ 0 _ _ _ ((Below.heap_alloc _ _ _ (lt_of_block h1)).trans h1), cell_of_row _ _ 0 _ _ _ h2⟩

/-- What lies in memory behind a range, until the round's end. -/
structure MostE (sv : Value) (b mb : Nat) (f0 f1 f2 f3 f4 f5 f6 : Int) (tp B2 base : Nat) (Ds : List Nat) (w W : World) : Prop where
  row : W.heap[b]? = some (.cells #[sv, .map (some mb), .int .i64 f0, .int .i64 f1, .int .i64 f2, .int .i64 f3, .int .i64 f4, .int .i64 f5, .int .i64 f6, .int .i64 ((tp : Int) + 1)] 100)
  box : W.heap[B2]? = some (.cells #[.pointer (some ⟨b, 0, none⟩)] 67)
  marks : Marked base Ds W
  only : Only (fun k => k = b ∨ k = mb) w W
  ne : ∃ es c, W.heap[mb]? = some (.map es c)
theorem MostE.step {sv : Value} {b mb : Nat} {f0 f1 f2 f3 f4 f5 f6 : Int} {tp B2 base : Nat} {Ds : List Nat} {w W W' : World} (h : MostE sv b mb f0 f1 f2 f3 f4 f5 f6 tp B2 base Ds w W) (ho : Only (fun k => k = mb) W W') (hm : ∃ es c, W'.heap[mb]? = some (.map es c)) :
    MostE sv b mb f0 f1 f2 f3 f4 f5 f6 tp B2 base Ds w W' := by
  obtain ⟨es, c, hmm⟩ := h.ne
  refine ⟨ho.heap h.row (fun e => ?_), ho.heap h.box (fun e => ?_), h.marks.only ho (fun E hE e => ?_), h.only.trans (ho.mono (fun _ _ e => .inr e)), hm⟩
  · have hr := h.row; rw [show b = mb from e, hmm] at hr; cases hr
  · have hr := h.box; rw [show B2 = mb from e, hmm] at hr; cases hr
  · have hr := (h.marks.at_ E hE).2; rw [show E = mb from e, hmm] at hr; cases hr
theorem MapF.obj {κ : Type} [DecidableEq κ] {kv : κ → Value} {W : World} {b : Nat} {f : κ → Option Value} (h : MapF kv W b f) : ∃ es c, W.heap[b]? = some (.map es c) := by
  obtain ⟨E, c, hm, _⟩ := h; exact ⟨_, _, hm.heap⟩

set_option maxHeartbeats 8000000 in
set_option maxRecDepth 100000 in
theorem most_any (D : Nat → Prop) (sv : Value) (c : List Int) (b mb top : Nat) (f0 f1 f2 f3 f4 f5 f6 : Int) (t : Nat) (w : World) (hv : Ints D w sv c) (hD : ∀ k, D k → k < w.heap.size ∧ k ≠ b ∧ k ≠ mb) (h1 : 1 ≤ c.length) (h6 : c.length ≤ 6) (hb : ∀ i, 0 ≤ nAt c i ∧ nAt c i ≤ 100)
    (ht : t ≤ 400) (htop : top ≤ 1000) (hB : Board c sv b mb top f0 f1 f2 f3 f4 f5 f6 w) :
    Calls Try.prog 47 #[.pointer (some ⟨b, 0, none⟩), .int .i64 t] w fun e w' => e = .returned (.int .i64 (mostOf c t)) ∧ (∃ top', top' ≤ 1000 ∧ Board c sv b mb top' f0 f1 f2 f3 f4 f5 f6 w') ∧ Only (fun k => k = b ∨ k = mb) w w' := by
  obtain ⟨B2, hB2⟩ : ∃ B, B = w.heap.size := ⟨_, rfl⟩
  obtain ⟨w1, hw1⟩ : ∃ x, x = w.alloc (.cells #[.pointer (some ⟨b, 0, none⟩)] 67) := ⟨_, rfl⟩
  have hP1 : Pure w w1 := by rw [hw1]; exact (Only.refl _ w).alloc _
  have hc2 : w1.heap[B2]? = some (.cells #[.pointer (some ⟨b, 0, none⟩)] 67) := by rw [hw1, hB2]; exact World.alloc_heap_new w _
  have hB1 := hB.keep hP1 (fun f => f) (fun f => f)
  have hr := hB1.row
  have d2 : w1.cell? ⟨B2, 0, none⟩ = some (.pointer (some ⟨b, 0, none⟩)) := cell_of_row _ _ 0 _ _ _ hc2
  have e1 : w1.cell? ⟨b, 1, none⟩ = some (.map (some mb)) := cell_of_row _ _ 1 _ _ _ hr
  have e2 : w1.cell? ⟨b, 2, none⟩ = some (.int .i64 f0) := cell_of_row _ _ 2 _ _ _ hr
  have e3 : w1.cell? ⟨b, 3, none⟩ = some (.int .i64 f1) := cell_of_row _ _ 3 _ _ _ hr
  have e4 : w1.cell? ⟨b, 4, none⟩ = some (.int .i64 f2) := cell_of_row _ _ 4 _ _ _ hr
  have e5 : w1.cell? ⟨b, 5, none⟩ = some (.int .i64 f3) := cell_of_row _ _ 5 _ _ _ hr
  have e6 : w1.cell? ⟨b, 6, none⟩ = some (.int .i64 f4) := cell_of_row _ _ 6 _ _ _ hr
  have e7 : w1.cell? ⟨b, 7, none⟩ = some (.int .i64 f5) := cell_of_row _ _ 7 _ _ _ hr
  have e8 : w1.cell? ⟨b, 8, none⟩ = some (.int .i64 f6) := cell_of_row _ _ 8 _ _ _ hr
  have e9 : w1.cell? ⟨b, 9, none⟩ = some (.int .i64 top) := cell_of_row _ _ 9 _ _ _ hr
  obtain ⟨z, hz⟩ : ∃ z : Bool, decide ([f0, f1, f2, f3, f4, f5, f6] = List.replicate 7 0) = z := ⟨_, rfl⟩
  have hu := few_eq f0 f1 f2 f3 f4 f5 f6
  rw [hz] at hu
  have hfew := hB.few
  have et : t < 7 → z = false → ∃ y, w1.cell? ⟨b, 2 + t, none⟩ = some (.int .i64 y) ∧ y = mostOf c t := fun h7 hz0 => by
    rw [hz0] at hz
    have hne := of_decide_eq_false hz
    rcases hfew with h | h
    · exact absurd h hne
    · refine ⟨mostOf c t, ?_, rfl⟩
      rw [cell_of_row _ _ _ _ _ _ hr]
      have hl : ([f0, f1, f2, f3, f4, f5, f6] : List Int)[t]? = some (mostOf c t) := by rw [h]; simp [h7]
      rcases (by omega : t = 0 ∨ t = 1 ∨ t = 2 ∨ t = 3 ∨ t = 4 ∨ t = 5 ∨ t = 6) with rfl | rfl | rfl | rfl | rfl | rfl | rfl <;> simpa using hl
  have HB := Lib.hid hB1; have HP1 := Lib.hid hP1; have HC2 := Lib.hid hc2; have HET := Lib.hid et; have HV := Lib.hid hv; have HDD := Lib.hid hD; have HBD := Lib.hid hb; have HW1 := Lib.hid hw1; have HB2 := Lib.hid hB2; have HNE := Lib.hid hB.ne; have HR := Lib.hid hr
  clear hB hB1 hP1 hc2 hr hz hfew et hv hD hb hw1 hB2
  refine (callsIn_wide (n := 10)).1 ?_
  refine callsIn_of_ret Try.func47 rfl trivial ?_ rfl
  simp only [Try.ntmps47, List.size_toArray, List.length_cons, List.length_nil, Nat.reduceAdd, Nat.reduceSub, Array.replicate_succ, Array.replicate_zero, List.push_toArray, List.append_toArray, List.nil_append, List.cons_append]
  refine wpIn_wide.2 ?_
  go_upto_region 1 with fail
  rw [← HW1.out, ← HB2.out]
  go_cut [18] from 9 to 18 (fun s wx => ∃ g : Bool, s = .bool g ∧ Hid (g = (decide (t < 7) && !z)) ∧ wx = w1)
  case first =>
    by_cases h7 : t < 7
    · cases z
      all_goals
        go_wp2_with fail
        go_meet
        exact ⟨_, rfl, Lib.hid (by simp [h7]), rfl⟩
    · go_wp2_with fail
      go_meet
      exact ⟨_, rfl, Lib.hid (by simp [h7]), rfl⟩
  case rest =>
    obtain ⟨g, rfl, HG, rfl⟩ := hcut
    cases g
    case true =>
      have hg := HG.out.symm
      have h7 : t < 7 := by simp at hg; exact hg.1
      have hz0 : z = false := by simp at hg; exact hg.2
      obtain ⟨y, hy, hyv⟩ := HET.out h7 hz0
      have HY := Lib.hid hyv
      have HX := Lib.hid (show Only (fun k => k = b ∨ k = mb) w wc from HP1.out.mono (fun _ _ f => f.elim))
      clear hyv
      go_wp2_with fail
      refine retPost_ret (leaves_nil _ (results_tmp rfl _ _ _) ?_)
      exact ⟨by rw [HY.out]; rfl, ⟨top, htop, HB.out⟩, HX.out⟩
    case false =>
      obtain ⟨wa, hwa⟩ : ∃ x, x = wc := ⟨_, rfl⟩
      subst hwa
      go_upto_if 31 with fail
      go_cut [] from 31 to 45 (fun wx => ∃ tp, tp ≤ 1000 ∧ tp ≤ t + 6 ∧ Board c sv b mb tp f0 f1 f2 f3 f4 f5 f6 wx ∧ Only (fun k => k = b ∨ k = mb) wa wx)
      case first =>
        by_cases hlt : (t : Int) < (top : Int) - 6
        · obtain ⟨cl, hrun, hme⟩ := HB.out.map.clear (P := Try.prog) (ty := 0) (T := 96) Try.underlying96
          have hne := HNE.out
          obtain ⟨wk, hwk⟩ : ∃ x, x = wa.putObj mb (.map #[] cl) := ⟨_, rfl⟩
          have hOk : Only (fun k => k = mb) wa wk := by rw [hwk]; exact putObj_only _ _ _
          rw [← hwk] at hrun hme
          have q2 := hOk.cell d2 (fun e => by have h := HB.out.map.lt; have e : B2 = mb := e; have hc := HC2.out; obtain ⟨E, c', hm, _⟩ := HB.out.map; rw [e, hm.heap] at hc; cases hc)
          have q1 := hOk.cell e1 (fun e => hne e)
          have HOK := Lib.hid hOk; have HME := Lib.hid hme; have HWK := Lib.hid hwk
          have HB2N := Lib.hid (show ¬ (B2 = b ∨ B2 = mb) from fun e => by
            rcases e with e | e
            · have hr := HR.out; rw [← e, HC2.out] at hr; simp at hr
            · obtain ⟨E, c', hm, _⟩ := HB.out.map; have hc := HC2.out; rw [e, hm.heap] at hc; cases hc)
          clear hOk hme hwk hne
          go_wp2_with fail
          clear hrun
          obtain ⟨G, hG⟩ : ∃ G : World → Prop, ∀ x, G x ↔ (Only (fun k => k = b ∨ k = mb) wk x ∧ x.cell? ⟨b, 1, none⟩ = some (.map (some mb))) := ⟨_, fun _ => Iff.rfl⟩
          have k2 : ∀ g : InG G, g.world.cell? ⟨B2, 0, none⟩ = some (.pointer (some ⟨b, 0, none⟩)) := fun g => ((hG _).1 g.holds).1.cell q2 (HB2N.out)
          have k1 : ∀ g : InG G, g.world.cell? ⟨b, 1, none⟩ = some (.map (some mb)) := fun g => ((hG _).1 g.holds).2
          have mkG : ∀ x, Only (fun k => k = b ∨ k = mb) wk x → x.cell? ⟨b, 1, none⟩ = some (.map (some mb)) → G x := fun x h1 h2 => (hG x).2 ⟨h1, h2⟩
          have MKG := Lib.hid mkG
          have hbz := fun w => key_build 0 w
          haveI hInh : Inhabited (InG G) := ⟨⟨wk, (hG wk).2 ⟨Only.refl _ _, q1⟩⟩⟩
          clear hG mkG
          refine any_start G (by kernel_rfl) ?_
          refine any_take [0, 1, 2, 3, 4, 5] (by kernel_rfl) (MKG.out _ (Only.refl _ _).drew q1) (fun d _ _ _ _ h => by cases d <;> exact h) 6 (by kernel_rfl) ?_
          simp only [picks, List.drop_succ_cons, List.drop_zero, List.take_succ_cons, List.take_zero, List.cons_append, List.nil_append]
          repeat (go_big_quiet_step (fail))
          refine wpQuiet_nil ?_
          refine any_force (i := 6) (by kernel_rfl) rfl ?_
          have hm0 : wk.drew.heap[mb]? = some (.map #[] cl) := HME.out
          have he := entry_empty (P := Try.prog) key_law hm0 (T := 96) Try.underlying96 (Try.zeroValue2 _) 0
          obtain ⟨wm, hwm⟩ : ∃ x, x = wk.drew.putObj mb (.map #[⟨keyV 0, .int .i64 0, cl⟩] (cl + 1)) := ⟨_, rfl⟩
          have hm1 : wm.heap[mb]? = some (.map #[⟨keyV 0, .int .i64 0, cl⟩] (cl + 1)) := by rw [hwm]; exact putObj_at hm0
          obtain ⟨hs, hM⟩ := entry_store (P := Try.prog) keyV (T := 96) (v := .int .i64 0) 0 hm1 (Nat.lt_succ_self _)
          obtain ⟨ws, hws⟩ : ∃ x, x = wm.putObj mb (.map #[⟨keyV 0, .int .i64 0, cl⟩] (cl + 1)) := ⟨_, rfl⟩
          have hO1 : Only (fun k => k = mb) wk.drew wm := by rw [hwm]; exact putObj_only _ _ _
          have hO2 : Only (fun k => k = mb) wm ws := by rw [hws]; exact putObj_only _ _ _
          have hO3 : Only (fun k => k = mb) wa ws := ((HOK.out.drew).trans hO1).trans hO2
          rw [← hwm] at he
          rw [← hws] at hs hM
          have hrow := hO3.heap HB.out.row HNE.out
          have c9 : ws.cell? ⟨b, 9, none⟩ = some (.int .i64 top) := cell_of_row _ _ 9 _ _ _ hrow
          have fr9 : ws.frozen? ⟨b, 9, none⟩ = false := arr_frozen hrow 9
          have hset := heap_setCell_same ws _ 9 _ _ (.int .i64 0) hrow
          have hO4 : Only (fun k => k = b ∨ k = mb) wa (ws.setCell ⟨b, 9, none⟩ (.int .i64 0)) := (hO3.mono (fun _ _ h => .inr h)).setCell (.inl (.inl rfl)) _
          have hB4 : Board c sv b mb 0 f0 f1 f2 f3 f4 f5 f6 (ws.setCell ⟨b, 9, none⟩ (.int .i64 0)) :=
            ⟨hset, (hM.congr (fun x => knownF_start c x)).keep ((Only.refl (fun k => k = b) ws).setCell (.inl rfl) _) (fun e => HNE.out e.symm), HB.out.few⟩
          have H4 := Lib.hid (And.intro hO4 hB4)
          have hKm : Only (fun k => k = b ∨ k = mb) wk wm := ((Only.refl (fun k => k = mb) wk).drew.trans hO1).mono (fun _ _ h => .inr h)
          have hKs := hKm.trans (hO2.mono (fun _ _ h => .inr h))
          have c1m := hO1.cell (p := ⟨b, 1, none⟩) (v := .map (some mb)) q1 HNE.out
          have c1s := hO2.cell c1m HNE.out
          have GM := Lib.hid (MKG.out wm hKm c1m)
          have GS := Lib.hid (MKG.out ws hKs c1s)
          have GF := Lib.hid (MKG.out _ (hKs.setCell (p := ⟨b, 9, none⟩) (.inl (.inl rfl)) (.int .i64 0)) (cell_of_row _ _ 1 _ _ _ hset))
          unfold keyV at he
          clear hm0 hm1 hwm hws hO1 hO2 hO3 hM hrow hset hO4 hB4 q1 q2 hKm hKs c1m c1s
          go_wp2_with fail
          refine ⟨GM.out, ?_⟩
          refine any_take [7] (by kernel_rfl) GM.out (fun d _ _ _ _ h => by cases d <;> exact h) 4 (by kernel_rfl) ?_
          simp only [picks, List.drop_succ_cons, List.drop_zero, List.take_succ_cons, List.take_zero, List.cons_append, List.nil_append]
          repeat (go_big_quiet_step (fail))
          refine wpQuiet_nil ?_
          refine any_force (i := 8) (by kernel_rfl) rfl ?_
          go_wp2_with fail
          refine ⟨GS.out, ?_⟩
          refine any_take [9, 10] (by kernel_rfl) GS.out (fun d _ _ _ _ h => by cases d <;> exact h) 1 (by kernel_rfl) ?_
          simp only [picks, List.drop_succ_cons, List.drop_zero, List.take_succ_cons, List.take_zero, List.cons_append, List.nil_append]
          repeat (go_big_quiet_step (fail))
          refine wpQuiet_nil ?_
          refine any_force (i := 11) (by kernel_rfl) rfl ?_
          go_wp2_with fail
          refine ⟨GF.out, any_done (by kernel_rfl) ?_⟩
          go_wp2_with fail
          go_meet
          exact ⟨0, by omega, by omega, H4.out.2, H4.out.1⟩
        · go_wp2_with fail
          go_meet
          exact ⟨top, htop, by omega, HB.out, Only.refl _ _⟩
      case rest =>
        obtain ⟨tp, htp, htp6, hB, hO⟩ := hcut
        have HOW := Lib.hid ((HP1.out.mono (S' := fun k => k = b ∨ k = mb) (fun _ _ f => f.elim)).trans hO)
        have HB9 := Lib.hid hB
        have HC9 := Lib.hid (hO.heap HC2.out (fun e => by
          rcases e with e | e
          · have hr := HR.out; rw [← e, HC2.out] at hr; simp at hr
          · obtain ⟨E, c', hm, _⟩ := HB.out.map; have hc := HC2.out; rw [e, hm.heap] at hc; cases hc))
        clear hO hB d2 e1 e2 e3 e4 e5 e6 e7 e8 e9 HG HB HC2 HR HET HW1 HP1 hu
        go_wp2_with fail
        refine wp_loop (MostI c sv b mb f0 f1 f2 f3 f4 f5 f6 t B2 w) (fun _ W => t - topOf b W) ?start ?round
        case start => exact MostI.mk htp htp6 HB9.out HC9.out (Marked.nil _ _) HOW.out
        case round =>
          clear HB9 HC9 HOW htp htp6 tp htop
          intro a wr hI
          refine hI.elim (motive := fun a => Code.wp _ _ _ a wr) ?_
          clear hI a
          intro x3 x5 x6 x7 x8 x9 x10 x11 x12 x13 x14 x15 x16 x17 x18 x19 x20 x21 x22 x23 x24 x25 x26 x27 x28 x29 x30 x31 x32 x33 x34 x35 x36 x37 x38 x39 x40 x41 x42 x43 x44 x45 x46 x47 x48 x49 x50 x51 x52 x53 x54 x55 x56 x57 x58 x59 x60 x61 x62 x63 x64 x65 x66 x67 x68 x69 x70 x71 x72 x73 x74 x75 x76 x77 x78 x79 x80 x81 x82 x83 x84 x85 x86 x87 x88 x89 x90 x91 x92 x93 x94 x95 x96 x97 x98 x99 x100 x101 x102 x103 x104 x105 x106 x107 x108 x109 x110 x111 x112 x113 x114 x115 x116 x117 x118 x119 x120 x121 x122 Ds tp htp htp6 hB hC hM hO
          have htop := topOf_row hB
          have hr := hB.row
          have d2 : wr.cell? ⟨B2, 0, none⟩ = some (.pointer (some ⟨b, 0, none⟩)) := cell_of_row _ _ 0 _ _ _ hC
          have e0 : wr.cell? ⟨b, 0, none⟩ = some sv := cell_of_row _ _ 0 _ _ _ hr
          have e1 : wr.cell? ⟨b, 1, none⟩ = some (.map (some mb)) := cell_of_row _ _ 1 _ _ _ hr
          have e9 : wr.cell? ⟨b, 9, none⟩ = some (.int .i64 tp) := cell_of_row _ _ 9 _ _ _ hr
          have f9 : wr.frozen? ⟨b, 9, none⟩ = false := arr_frozen hr 9
          have HBB := Lib.hid hB; have HCC := Lib.hid hC; have HMM := Lib.hid hM; have HOO := Lib.hid hO; have HTOP := Lib.hid htop; have HRR := Lib.hid hr
          clear hB hC hM hO hr htop
          by_cases hlt : tp < t
          · have hwa1 := (Only.refl (fun k => k = b) wr).setCell (p := ⟨b, 9, none⟩) (.inl rfl) (.int .i64 ((tp : Int) + 1))
            have hwa2 := heap_setCell_same wr _ 9 _ _ (.int .i64 ((tp : Int) + 1)) HRR.out
            obtain ⟨wA, hwA⟩ : ∃ x, x = wr.setCell ⟨b, 9, none⟩ (.int .i64 ((tp : Int) + 1)) := ⟨_, rfl⟩
            rw [← hwA] at hwa1 hwa2
            obtain ⟨wB, hwB⟩ : ∃ x, x = wA.alloc (.cells #[.int .i64 (-1)] 2) := ⟨_, rfl⟩
            have hsA : wA.heap.size = wr.heap.size := by rw [hwA]; simp [World.setCell]
            have hP := (Only.refl (fun _ => False) wA).alloc (.cells #[.int .i64 (-1)] 2)
            have hout := World.alloc_heap_new wA (.cells #[.int .i64 (-1)] 2)
            have hsB : wB.heap.size = wr.heap.size + 1 := by rw [hwB]; simp [hsA]
            rw [← hwB] at hP hout
            rw [hsA] at hout
            obtain ⟨Bo, hBo⟩ : ∃ x, x = wr.heap.size := ⟨_, rfl⟩
            rw [← hBo] at hout hsB
            have hrowB := hP.heap hwa2 (fun f => f)
            have hmapB := (HBB.out.map.keep hwa1 (fun e => HNE.out e.symm)).keep hP (fun f => f)
            have hB2b : ¬ B2 = b := fun e => by have h := HCC.out; rw [e, HRR.out] at h; simp at h
            have hboxB := hP.heap (hwa1.heap HCC.out hB2b) (fun f => f)
            have hDb : ∀ E, E ∈ Ds → ¬ E = b := fun E hE e => by have h := (HMM.out.at_ E hE).2; rw [e, HRR.out] at h; cases h
            have hmkB := (HMM.out.only hwa1 hDb).only hP (fun _ _ f => f)
            have honB : Only (fun k => k = b ∨ k = mb) w wB := (HOO.out.trans (hwa1.mono (fun _ _ h => .inl h))).trans (hP.mono (fun _ _ f => f.elim))
            have hIn : Inner c sv b mb f0 f1 f2 f3 f4 f5 f6 tp B2 Bo (w.heap.size + 1) Ds w [] wB := ⟨hrowB, hmapB, hboxB, hout, hmkB, honB⟩
            have d2 : wB.cell? ⟨B2, 0, none⟩ = some (.pointer (some ⟨b, 0, none⟩)) := cell_of_row _ _ 0 _ _ _ hboxB
            have e0' : wB.cell? ⟨b, 0, none⟩ = some sv := cell_of_row _ _ 0 _ _ _ hrowB
            have e9' : wB.cell? ⟨b, 9, none⟩ = some (.int .i64 ((tp : Int) + 1)) := cell_of_row _ _ 9 _ _ _ hrowB
            have hwBo : w.heap.size ≤ Bo := by rw [hBo]; exact HOO.out.size
            have hbo : b < Bo := by rw [hBo]; exact lt_of_block HRR.out
            have hb2o : B2 < Bo := by rw [hBo]; exact lt_of_block HCC.out
            have hmbo : mb < Bo := by rw [hBo]; exact HBB.out.map.lt
            have hDsl : ∀ E, E ∈ Ds → E < Bo := fun E hE => by rw [hBo]; exact HMM.out.lt E hE
            have HIN := Lib.hid hIn; have HDL := Lib.hid hDsl; have HSB := Lib.hid hsB; have HVB := Lib.hid (show Ints D wB sv c from HV.out.keep honB (fun k hk h => by have := HDD.out k hk; omega))
            have HWA := Lib.hid hwA; have HWB := Lib.hid hwB; have HBO := Lib.hid hBo
            clear hwa1 hwa2 hsA hP hout hsB hrowB hmapB hB2b hboxB hDb hmkB honB hIn hDsl hwA hwB hBo
            go_upto_region 9 with fail
            rw [← HWA.out, ← HWB.out, ← HBO.out]
            have HFEW := Lib.hid HBB.out.few
            clear HWA HWB HBO e0 e1 e9 f9 HRR HMM HCC HOO HBB
            have g2 := fun g => grow_cell d2 g; have g0 := fun g => grow_cell e0' g; have g9 := fun g => grow_cell e9' g
            refine mixed_start (by kernel_rfl) ?_
            refine mixed_take [0, 1, 2, 3, 4, 5, 6, 7] (by kernel_rfl) (Only.refl _ _).drew (fun d _ _ _ _ h => by cases d <;> exact h) 1 (by kernel_rfl) ?_
            simp only [picks, List.drop_succ_cons, List.drop_zero, List.take_succ_cons, List.take_zero, List.cons_append, List.nil_append]
            repeat (go_big_quiet_step (fail))
            refine wpQuiet_nil ?_
            refine mixed_force (i := 8) (by kernel_rfl) rfl ?_
            go_wp2_with fail
            refine (cuts_any sv ((tp : Int) + 1) _).mono ?_
            rintro e wC ⟨rfl, hwC⟩
            have hPC : Pure wB wC := by rw [hwC]; exact ((Only.refl _ wB).drew.alloc _).alloc _
            have hk1 : wC.cell? ⟨wB.drew.heap.size, 0, none⟩ = some sv := by rw [hwC]; exact (box_two wB.drew _ _ _ _).1
            have hk2 : wC.cell? ⟨wB.drew.heap.size + 1, 0, none⟩ = some (.int .i64 ((tp + 1 : Nat) : Int)) := by rw [hwC]; exact (box_two wB.drew _ _ _ _).2
            obtain ⟨B1, hB1⟩ : ∃ x, x = wB.drew.heap.size := ⟨_, rfl⟩
            rw [← hB1] at hk1 hk2 ⊢
            have HB1 := Lib.hid (show B1 = Bo + 1 from by rw [hB1]; exact HSB.out)
            have HINC := Lib.hid (HIN.out.step (pre' := []) hPC rfl)
            have HVC := Lib.hid (HVB.out.pure hPC)
            have HPC := Lib.hid hPC
            have HSE := Lib.hid (cuts1_stops 9 B1 (B1 + 1) D sv c (tp + 1) wC (by decide) h6 hk1 hk2 (HVB.out.pure hPC))
            have hszC : B1 + 1 < wC.heap.size := World.block_lt_of_cell? _ _ hk2
            clear hwC hPC hk1 hk2 hB1 g2 g0 g9 d2 e0' e9' HIN HVB HSB
            go_wp2_with fail
            refine ⟨HPC.out, wpAnyG_done (by kernel_rfl) ?_⟩
            go_wp2_with fail
            refine (wpIn_wide (n := 10)).1 ?_
            refine wpIn_rangeFunc_act (fun x a => { tmps := (((a.tmps.setIfInBounds 68 (.int .i64 x.1)).setIfInBounds 69 (.int .i64 x.2)).setIfInBounds 6 (.int .i64 x.1)).setIfInBounds 7 (.int .i64 x.2), defers := [] }) (F := Fence.wide) (n := 10) rfl (by decide) (gf := 82) (lb := #[.pointer (some ⟨B1, 0, none⟩), .pointer (some ⟨B1 + 1, 0, none⟩)]) rfl trivial (enters_of Try.func82 (by kernel_rfl) rfl) HSE.out (fun h k => h.trans k) (fun W l o o' _ h hc _ => KeepC.obj W l o o' h hc) (Below.refl _ _) (fun _ => rfl)
              (Inner c sv b mb f0 f1 f2 f3 f4 f5 f6 tp B2 Bo (w.heap.size + 1) Ds w) (fun _ _ _ => False) (own_of (Inner.near (by have := HB1.out; omega) (by have := HB1.out; omega) (fun E hE => by have := HDL.out E hE; have := HB1.out; omega))) (fun _ => own_of (fun _ _ _ _ h => h)) HINC.out ?assign ?body ?done ?stop
            case assign =>
              intro l pre x W K hi hK
              have hK' := hK W (KeepsFrom.refl _ _) (KeepC.refl _ _) hi
              simp only [List.setIfInBounds_toArray, List.set_cons_succ, List.set_cons_zero] at hK'
              have HK := Lib.hid hK'
              clear hK hK'
              gi_wp2
              exact HK.out
            case body =>
              rintro l pre x W hl ⟨r, hr⟩ hI hlen
              simp only [List.setIfInBounds_toArray, List.set_cons_succ, List.set_cons_zero]
              have d2 : W.cell? ⟨B2, 0, none⟩ = some (.pointer (some ⟨b, 0, none⟩)) := cell_of_row _ _ 0 _ _ _ hI.box
              have e1 : W.cell? ⟨b, 1, none⟩ = some (.map (some mb)) := cell_of_row _ _ 1 _ _ _ hI.row
              have e9 : W.cell? ⟨b, 9, none⟩ = some (.int .i64 ((tp : Int) + 1)) := cell_of_row _ _ 9 _ _ _ hI.row
              have hlk := fun g => (hI.map.keep (grow_pure W g) (fun f => f)).look (P := Try.prog) key_law (T := 96) Try.underlying96 (Try.zeroValue2 _) (wrap64 ((tp : Int) + 1 - x.1))
              simp only [knownF_get] at hlk
              unfold keyV at hlk
              have hbz := fun w => key_build (wrap64 ((tp : Int) + 1 - x.1)) w
              have hsn := outTo_snoc c tp pre x
              unfold outStep at hsn
              obtain ⟨y, hy⟩ : ∃ y, knownI c tp (wrap64 ((tp : Int) + 1 - x.1)) = y := ⟨_, rfl⟩
              rw [hy] at hsn
              simp only [hy] at hlk
              have HI := Lib.hid hI; have HSN := Lib.hid hsn
              have g2 := fun g => grow_cell d2 g; have g1 := fun g => grow_cell e1 g; have g9 := fun g => grow_cell e9 g
              clear hI hr hsn hy
              gi_wp2_with fail
              refine round_region_grow (by kernel_rfl) (by kernel_rfl) (by kernel_rfl) ?_
              repeat (go_big_quiet_step (fail))
              refine wpQuiet_nil ?_
              rintro w' ⟨g, rfl⟩
              have hP := grow_pure W g
              obtain ⟨W1, hW1⟩ : ∃ W1, grow W g = W1 := ⟨_, rfl⟩
              rw [hW1] at hP ⊢
              obtain ⟨n', hn'⟩ : ∃ n', wrap64 (x.2 + y) = n' := ⟨_, rfl⟩
              rw [hn']
              have hsn := HSN.out
              rw [hn'] at hsn
              have h1out := hP.heap HI.out.out (fun f => f)
              obtain ⟨o, ho⟩ : ∃ o, outTo c tp pre = o := ⟨_, rfl⟩
              rw [ho] at h1out hsn
              have d5 : W1.cell? ⟨Bo, 0, none⟩ = some (.int .i64 o) := cell_of_row _ _ 0 _ _ _ h1out
              have fr5 : W1.frozen? ⟨Bo, 0, none⟩ = false := arr_frozen h1out 0
              have HK := Lib.hid (And.intro (KeepsFrom.of_grownBy (B := wC.heap.size) (pure_grown hP) (fun j e => by cases e)) (KeepC.pure (D := fun k => k = B1 + 1 ∨ D k) hP))
              have HPP := Lib.hid hP
              have HSN2 := Lib.hid hsn; have HO := Lib.hid ho
              have HKC := Lib.hid (fun (v : Value) => KeepC.only (D := fun k => k = B1 + 1 ∨ D k) ((Only.refl (fun k => k = Bo) W1).setCell (p := ⟨Bo, 0, none⟩) (.inl rfl) v) (fun k hk e => by
                rcases hk with rfl | hk
                · have := HB1.out; omega
                · have := (HDD.out k hk).1; omega))
              clear hP hW1 hn' hsn h1out ho hbz hlk d2 e1 e9 g1 g2 g9 HSN
              by_cases hneg : o < 0
              · have HS := Lib.hid (HI.out.set HPP.out (pre' := pre ++ [x]) n' (by rw [HSN2.out, if_pos (.inl hneg)]) (by omega) (by omega) hwBo)
                gi_wp2
                exact ⟨HK.out.1.trans ((KeepsOthers.setCell _ _ _).from _), HK.out.2.trans (HKC.out _), HS.out⟩
              · by_cases hno : n' < o
                · have HS := Lib.hid (HI.out.set HPP.out (pre' := pre ++ [x]) n' (by rw [HSN2.out, if_pos (.inr hno)]) (by omega) (by omega) hwBo)
                  gi_wp2
                  exact ⟨HK.out.1.trans ((KeepsOthers.setCell _ _ _).from _), HK.out.2.trans (HKC.out _), HS.out⟩
                · have HS := Lib.hid (HI.out.step HPP.out (pre' := pre ++ [x]) (by rw [HSN2.out, if_neg (by omega), HO.out]))
                  gi_wp2
                  exact ⟨HK.out.1, HK.out.2, HS.out⟩
            case done =>
              rintro D' ys W hD' hS hI hK
              subst hS
              have hall := outTo_all h1 h6 HBD.out tp htp
              obtain ⟨y, hy⟩ : ∃ y, mostOf c (tp + 1) = y := ⟨_, rfl⟩
              have hout := hI.out
              rw [hall, hy] at hout
              have hmk : Marked (w.heap.size + 1) (D' :: Ds) W := hI.marks.cons (by have := HB1.out; omega) hK (fun h => by have := HDL.out _ h; have := HB1.out; omega)
              have hE : MostE sv b mb f0 f1 f2 f3 f4 f5 f6 tp B2 (w.heap.size + 1) (D' :: Ds) w W := ⟨hI.row, hI.box, hmk, hI.only, hI.map.obj⟩
              have hm := hI.map
              have d2 : W.cell? ⟨B2, 0, none⟩ = some (.pointer (some ⟨b, 0, none⟩)) := cell_of_row _ _ 0 _ _ _ hI.box
              have e1 : W.cell? ⟨b, 1, none⟩ = some (.map (some mb)) := cell_of_row _ _ 1 _ _ _ hI.row
              have e9 : W.cell? ⟨b, 9, none⟩ = some (.int .i64 ((tp : Int) + 1)) := cell_of_row _ _ 9 _ _ _ hI.row
              have d5 : W.cell? ⟨Bo, 0, none⟩ = some (.int .i64 y) := cell_of_row _ _ 0 _ _ _ hout
              have hbz := fun w => key_build ((tp : Int) + 1) w
              obtain ⟨ou, hup, hm1⟩ := (hm.keep (Only.refl (fun _ => False) W).drew (fun f => f)).update (P := Try.prog) key_law (T := 96) Try.underlying96 ((tp : Int) + 1) (.int .i64 y)
              obtain ⟨W1, hW1⟩ : ∃ x, x = W.drew.putObj mb ou := ⟨_, rfl⟩
              have hO1 : Only (fun k => k = mb) W W1 := by rw [hW1]; exact (Only.refl (fun k => k = mb) W).drew.trans (putObj_only _ _ _)
              rw [← hW1] at hup hm1
              have hE1 := hE.step hO1 hm1.obj
              unfold keyV at hup
              have HE1 := Lib.hid hE1; have HM1 := Lib.hid hm1; have HY := Lib.hid hy
              have g2 := fun g => grow_cell d2 g; have g1 := fun g => grow_cell e1 g; have g9 := fun g => grow_cell e9 g; have g5 := fun g => grow_cell d5 g
              clear hI hK hall hout hmk hE hm hm1 hW1 hO1 hE1 hy
              go_wp2_with fail
              refine mixed_start (by kernel_rfl) ?_
              refine mixed_take [0, 1, 2, 3, 4, 5, 6, 7, 8, 9] (by kernel_rfl) (Only.refl _ _).drew (fun d _ _ _ _ h => by cases d <;> exact h) 1 (by kernel_rfl) ?_
              simp only [picks, List.drop_succ_cons, List.drop_zero, List.take_succ_cons, List.take_zero, List.cons_append, List.nil_append]
              repeat (go_big_quiet_step (fail))
              refine wpQuiet_nil ?_
              have p2 : W1.cell? ⟨B2, 0, none⟩ = some (.pointer (some ⟨b, 0, none⟩)) := cell_of_row _ _ 0 _ _ _ HE1.out.box
              have p1 : W1.cell? ⟨b, 1, none⟩ = some (.map (some mb)) := cell_of_row _ _ 1 _ _ _ HE1.out.row
              have p9 : W1.cell? ⟨b, 9, none⟩ = some (.int .i64 ((tp : Int) + 1)) := cell_of_row _ _ 9 _ _ _ HE1.out.row
              have l2 : B2 < W1.heap.size := lt_of_block HE1.out.box
              have lb : b < W1.heap.size := lt_of_block HE1.out.row
              have heq := fun (q : Int) w => (key_law.eq q 0 w : (Op.equal 95 (keyV q) (keyV 0)).run Try.prog w = _)
              unfold keyV at heq
              clear g2 g1 g9 g5 d2 e1 e9 d5
              refine mixed_last (i := 10) (by kernel_rfl) rfl (by kernel_rfl) (by kernel_rfl) ?_
              by_cases hq : (tp : Int) + 1 - 12 = 0
              · have HF := Lib.hid (fun (o : Obj) => (⟨(HE1.out.row |> ((Only.refl (fun _ => False) W1).alloc o).heap) (fun f => f), (HM1.out.keep ((Only.refl (fun _ => False) W1).alloc o) (fun f => f)).congr (fun x => by
                  have h := knownF_next c tp x
                  rw [if_neg (fun h => h.2 hq), HY.out] at h
                  exact h), HFEW.out⟩ : Board c sv b mb (tp + 1) f0 f1 f2 f3 f4 f5 f6 (W1.alloc o)))
                have HG := Lib.hid (fun (o : Obj) => HE1.out.step ((Only.refl (fun k => k = mb) W1).alloc o) (HM1.out.keep ((Only.refl (fun _ => False) W1).alloc o) (fun f => f)).obj)
                go_wp2_with fail
                refine ⟨MostI.mk (Ds := D' :: Ds) (tp := tp + 1) (by omega) (by omega) (HF.out _) (HG.out _).box (HG.out _).marks (HG.out _).only, ?_⟩
                rw [topOf_row (HF.out _), HTOP.out]; omega
              · have hb8 := World.alloc_heap_new W1 (.cells #[.int .i64 ((tp : Int) + 1 - 12)] 95)
                have hPd := (Only.refl (fun _ => False) W1).alloc (.cells #[.int .i64 ((tp : Int) + 1 - 12)] 95)
                obtain ⟨Wd, hWd⟩ : ∃ x, x = W1.alloc (.cells #[.int .i64 ((tp : Int) + 1 - 12)] 95) := ⟨_, rfl⟩
                rw [← hWd] at hb8 hPd
                obtain ⟨B8, hB8⟩ : ∃ x, x = W1.heap.size := ⟨_, rfl⟩
                rw [← hB8] at hb8
                have r2 : Wd.cell? ⟨B2, 0, none⟩ = some (.pointer (some ⟨b, 0, none⟩)) := hPd.cell p2 (fun f => f)
                have r1 : Wd.cell? ⟨b, 1, none⟩ = some (.map (some mb)) := hPd.cell p1 (fun f => f)
                have r8 : Wd.cell? ⟨B8, 0, none⟩ = some (.int .i64 ((tp : Int) + 1 - 12)) := cell_of_row _ _ 0 _ _ _ hb8
                have HED := Lib.hid (HE1.out.step (hPd.mono (fun _ _ f => f.elim)) (HM1.out.keep hPd (fun f => f)).obj)
                have HMD := Lib.hid (HM1.out.keep hPd (fun f => f))
                have HWD := Lib.hid hWd; have HB8 := Lib.hid hB8
                clear hb8 hPd hWd hB8
                go_wp2_with fail
                rw [← HWD.out, ← HB8.out]
                clear HWD HB8 p2 p1 p9 l2 lb
                refine wp_region_drew_tail 5 (by kernel_rfl) (by kernel_rfl) ?_
                simp only [List.take_succ_cons, List.take_zero, List.drop_succ_cons, List.drop_zero]
                repeat (go_big_quiet_step (fail))
                refine wpQuiet_nil ?_
                rintro w' ⟨nd, rfl⟩
                obtain ⟨od, hdel, hmd⟩ := (HMD.out.keep ((Only.refl (fun _ => False) Wd).drewN nd) (fun f => f)).delete (P := Try.prog) (ty := 0) key_law (T := 96) Try.underlying96 ((tp : Int) + 1 - 12)
                have hOd : Only (fun k => k = mb) Wd ((Wd.drewN nd).putObj mb od) := ((Only.refl (fun k => k = mb) Wd).drewN nd).trans (putObj_only _ _ _)
                obtain ⟨We, hWe⟩ : ∃ x, x = (Wd.drewN nd).putObj mb od := ⟨_, rfl⟩
                rw [← hWe] at hdel hmd hOd
                have hEE := HED.out.step hOd hmd.obj
                have HG := Lib.hid hEE
                have HF := Lib.hid (⟨hEE.row, hmd.congr (fun x => by
                  have h := knownF_next c tp x
                  rw [HY.out] at h
                  rw [← h]
                  show (if x = (tp : Int) + 1 - 12 then none else upd (knownF c tp) ((tp : Int) + 1) (some (.int .i64 y)) x) = _
                  by_cases hx : x = (tp : Int) + 1 - 12
                  · rw [if_pos hx, if_pos ⟨hx, hq⟩]
                  · rw [if_neg hx, if_neg (fun h => hx h.1)]), HFEW.out⟩ : Board c sv b mb (tp + 1) f0 f1 f2 f3 f4 f5 f6 We)
                unfold keyV at hdel
                clear hmd hOd hWe hEE r1 r2 r8 heq hbz
                go_wp2_with fail
                refine ⟨MostI.mk (Ds := D' :: Ds) (tp := tp + 1) (by omega) (by omega) HF.out HG.out.box HG.out.marks HG.out.only, ?_⟩
                rw [topOf_row HF.out, HTOP.out]; omega
            case stop =>
              rintro D' c' pre W _ _ h _
              exact h.elim
          · have hlk := HBB.out.map.look (P := Try.prog) key_law (T := 96) Try.underlying96 (Try.zeroValue2 _) (t : Int)
            rw [knownF_get, show knownI c tp (t : Int) = mostOf c t from by unfold knownI; rw [if_pos (by unfold knows; omega), Int.toNat_natCast]] at hlk
            unfold keyV at hlk
            obtain ⟨y, hy⟩ : ∃ y, mostOf c t = y := ⟨_, rfl⟩
            rw [hy] at hlk
            have HY := Lib.hid hy
            have hbz := fun w => key_build t w
            clear hy
            go_wp2_with fail
            refine retPost_ret (leaves_marks Ds _ HMM.out (fun W' hW => leaves_nil _ (results_tmp rfl _ _ _) ?_))
            refine ⟨by rw [HY.out]; rfl, ⟨tp, htp, HBB.out.keep hW ?_ ?_⟩, HOO.out.trans' hW ?_⟩
            · intro h; have h2 := (HMM.out.at_ b h).2; rw [HRR.out] at h2; cases h2
            · intro h; have h2 := (HMM.out.at_ mb h).2; obtain ⟨E, c', hm, _⟩ := HBB.out.map; rw [hm.heap] at h2; cases h2
            · intro i hi h; have := (HMM.out.at_ i h).1; omega
end Go.Proofs.Ytcephfmafmmilaa
