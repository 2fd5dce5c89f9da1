/-
  Late.
-/
import Derived.Test.YtbiffhekbnmffaaCq
namespace Go.Proofs.Ytbiffhekbnmffaa
open Go.RowKit Go.Shelf

set_option maxHeartbeats 1000000 in
theorem fits_any (D D' : Nat → Prop) (b B8 B4 B12 : Nat) (h : Hall) (k : Nat) (come : List Int) (cv : Value) (w : World) (h8 : w.cell? ⟨B8, 0, none⟩ = some (.pointer (some ⟨b, 0, none⟩))) (h4 : w.cell? ⟨B4, 0, none⟩ = some (.int .i64 k)) (h12 : w.cell? ⟨B12, 0, none⟩ = some cv)
    (hF : FloorAt D w b h) (hc : Ints D' w cv come) (hlen : come.length = h.people.length) (h30 : h.people.length ≤ 30) (hm0 : 1 ≤ h.minutes) (hm : h.minutes ≤ 60) (hk : k ≤ 30) :
    Calls Try.prog 51 #[.pointer (some ⟨B8, 0, none⟩), .pointer (some ⟨B4, 0, none⟩), .pointer (some ⟨B12, 0, none⟩)] w fun e w' => e = .returned (.bool (fitsOf h k come)) ∧ Pure w w' := by
  have hs := serve_any D D' b h k come cv w hF hc hlen h30 hm0 hm hk
  have hfi : fitsOf h k come = decide ((serveOf h k come).2 = 0) := rfl
  obtain ⟨a, n, c, rfl⟩ := hc.form
  obtain ⟨⟨o, sh⟩, hso⟩ : ∃ p, serveOf h k come = p := ⟨_, rfl⟩
  rw [hso] at hs hfi
  rw [hfi]
  clear hso hfi hF hc hlen
  dsimp only at hs ⊢
  go_enter Try.func51, Try.ntmps51
  go_wp2_with fail
  refine hs.mono ?_
  rintro e w2 ⟨v, rfl, _, P2⟩
  clear hs
  by_cases hz : sh = 0
  · have hz' : (sh == 0) = true := by simpa using hz
    go_wp2
    go_ret
    exact ⟨by simp [hz], P2⟩
  · have hz' : (sh == 0) = false := by simpa using hz
    go_wp2
    go_ret
    exact ⟨by simp [hz], P2⟩

/-- The boxes of Late. -/
structure Lating (w : World) (b B8 B12 n : Nat) (h : Hall) (k : Nat) (v : Value) (come : List Int) (W : World) : Prop where
  b4 : W.heap[w.heap.size + 1]? = some (.cells #[.int .i64 k] 3 (0, 0))
  b8 : W.heap[B8]? = some (.cells #[.pointer (some ⟨b, 0, none⟩)] 68 (0, 0))
  b12 : W.heap[B12]? = some (.cells #[v] 25 (0, 0))
  row : W.ownsRow w.heap.size 2 1 v n (come.map (.int .i64))
  floor : ∃ pv, W.heap[b]? = some (.cells #[.int .i64 h.minutes, pv] 98 (0, 0)) ∧ People (fun k => k < w.heap.size) W pv h.people
  pure : Pure w W
theorem Lating.keep {w W W' : World} {b B8 B12 n : Nat} {h : Hall} {k : Nat} {v : Value} {come : List Int} (hl : Lating w b B8 B12 n h k v come W) (hp : Pure W W') : Lating w b B8 B12 n h k v come W' := by
  obtain ⟨pv, hb, hpe⟩ := hl.floor
  exact ⟨hp.heap hl.b4 (fun f => f), hp.heap hl.b8 (fun f => f), hp.heap hl.b12 (fun f => f), owns_pure hl.row hp, ⟨pv, hp.heap hb (fun f => f), hpe.pure hp⟩, hl.pure.trans hp⟩
theorem Lating.store {w W : World} {b B8 B12 n g c : Nat} {h : Hall} {k : Nat} {come : List Int} (hl : Lating w b B8 B12 n h k (.slice (some ⟨g, 0, none⟩) n c) come W) (i : Nat) (x : Int) :
    Lating w b B8 B12 n h k (.slice (some ⟨g, 0, none⟩) n c) (come.set i x) (W.setCell ⟨g, i, none⟩ (.int .i64 x)) := by
  have hO : Only (fun k => k = g) W (W.setCell ⟨g, i, none⟩ (.int .i64 x)) := (Only.refl (fun k => k = g) W).setCell (p := ⟨g, i, none⟩) (.inl rfl) _
  have hg := (owns_lt hl.row g rfl).1
  have ne : ∀ {j : Nat} {cs : Array Value} {t : TypeId}, W.heap[j]? = some (.cells cs t (0, 0)) → t ≠ 2 → ¬ j = g := fun hj ht e => by
    subst e; exact owns_not_row hl.row hj (fun cur e' => by cases e'; exact ht rfl) rfl
  obtain ⟨pv, hb, hpe⟩ := hl.floor
  refine ⟨hO.heap hl.b4 (ne hl.b4 (by decide)), hO.heap hl.b8 (ne hl.b8 (by decide)), hO.heap hl.b12 (ne hl.b12 (by decide)), ?_, ⟨pv, hO.heap hb (ne hb (by decide)), hpe.keep hO (fun j hj e => by have e' : j = g := e; omega)⟩, hl.pure.trans' hO (fun j hj e => by have e' : j = g := e; omega)⟩
  have := (hl.row.stored i (.int .i64 x)).1
  rwa [← List.map_set] at this

set_option maxHeartbeats 8000000 in
set_option maxRecDepth 100000 in
theorem Late_any (D : Nat → Prop) (pv : Value) (h : Hall) (k pe : Int) (w : World) (hv : People D w pv h.people) :
    Calls Try.prog 29 #[.agg #[.int .i64 h.minutes, pv], .int .i64 k, .int .i64 pe] w fun e w' => e = .returned (.tuple #[.int .i64 (lateR h k pe).1, .int .i64 (lateR h k pe).2]) ∧ Pure w w' := by
  replace hv : People (fun k => k < w.heap.size) w pv h.people := by
    obtain ⟨a, n, c, rfl, h1, h2, h3, h4⟩ := hv
    exact ⟨a, n, c, rfl, h1, h2, h3, fun i hi => by obtain ⟨b, o, e, d, r0, r⟩ := h4 i hi; exact ⟨b, o, e, World.block_lt_of_cell? w _ r0, r0, r⟩⟩
  have hP0 : Pure w ((w.alloc (Obj.cells #[.int .i64 h.minutes, pv] 24)).alloc (.cells #[.int .i64 k] 3)) := ((Only.refl _ w).alloc _).alloc _
  have hC := staffed_any _ pv h k _ (hv.pure hP0)
  have hS := @staffed_of h k
  have hdef : lateR h k pe = if staffedE h k ≠ 0 then (0, staffedE h k) else if pe < 0 ∨ (h.people.length : Int) ≤ pe then (0, 2)
    else if (windowP (pAt h.people pe.toNat)).2 = 0 then (0, 16) else if fitsOf h k.toNat (lastsOf h) = false then (0, 23)
    else (lateFrom h k.toNat pe.toNat (windowP (pAt h.people pe.toNat)).2 60 (windowP (pAt h.people pe.toNat)).1 (lastsOf h), 0) := rfl
  obtain ⟨a, len, cap, rfl, hlen⟩ : ∃ a n c, pv = .slice a n c ∧ n = h.people.length := by obtain ⟨a, n, c, hv, hl, _⟩ := hv; exact ⟨a, n, c, hv, hl⟩
  obtain ⟨s, hs⟩ : ∃ s, staffedE h k = s := ⟨_, rfl⟩
  rw [hs] at hC hS hdef
  obtain ⟨R, hRR⟩ : ∃ R, lateR h k pe = R := ⟨_, rfl⟩
  rw [hRR] at hdef ⊢
  have HD := Lib.hid hdef; have HS := Lib.hid hS; have HL := Lib.hid hlen
  have hb4 := World.alloc_heap_new (w.alloc (Obj.cells #[.int .i64 h.minutes, .slice a len cap] 24)) (.cells #[.int .i64 k] 3)
  rw [World.size_alloc] at hb4
  have HB4 := Lib.hid hb4
  clear hs hRR hdef hS hv hlen hb4
  go_enter Try.func29, Try.ntmps29
  go_wp2_with fail
  refine hC.mono ?_
  rintro e w1 (⟨h0, rfl, P1⟩ | ⟨rfl, b, rfl, hb, hF, P1⟩)
  · have Q1 := (hP0.trans P1).alloc (.cells #[.pointer none] 68)
    have HR := Lib.hid (show R = (0, s) from by rw [HD.out, if_pos h0])
    clear hC P1 hP0
    go_wp2
    go_ret2
    exact ⟨by rw [HR.out]; rfl, Q1⟩
  · have Q1 := hP0.trans P1
    have d1 := P1.cell (p := ⟨w.heap.size, 1, none⟩) (v := .slice a len cap) (by simp) (fun f => f)
    replace d1 := ((Only.refl (fun _ => False) w1).alloc (.cells #[.pointer (some ⟨b, 0, none⟩)] 68)).cell d1 (fun f => f)
    have hB4 := P1.heap HB4.out (fun f => f)
    have HF := Lib.hid hF
    obtain ⟨hval, hk0, hk30⟩ := HS.out rfl
    obtain ⟨v1, v60, v30, vall⟩ := valid_of hval
    have HV := Lib.hid vall
    obtain ⟨kn, rfl⟩ : ∃ n : Nat, k = n := ⟨k.toNat, by omega⟩
    clear hC P1 hP0 hF hval vall
    by_cases hp0 : pe < 0
    · have HR := Lib.hid (show R = (0, 2) from by rw [HD.out, if_neg (by simp), if_pos (.inl hp0)])
      clear hB4
      go_wp2
      go_ret2
      exact ⟨by rw [HR.out]; rfl, Q1.alloc _⟩
    · by_cases hp1 : (len : Int) ≤ pe
      · have HR := Lib.hid (show R = (0, 2) from by rw [HD.out, if_neg (by simp), if_pos (.inr (by rw [← HL.out]; exact hp1))])
        clear hB4
        go_wp2
        go_ret2
        exact ⟨by rw [HR.out]; rfl, Q1.alloc _⟩
      · obtain ⟨q, rfl⟩ : ∃ q : Nat, pe = q := ⟨pe.toNat, by omega⟩
        have hql : q < len := by omega
        have hD2 := HD.out
        rw [if_neg (by simp), if_neg (by rw [← HL.out]; omega), Int.toNat_natCast, Int.toNat_natCast] at hD2
        have hW := window_any _ b h q _ (HF.out.pure ((Only.refl _ w1).alloc (.cells #[.pointer (some ⟨b, 0, none⟩)] 68))) (by rw [← HL.out]; exact hql)
        have hwb := window_bd (HV.out q (by rw [← HL.out]; exact hql))
        obtain ⟨⟨la, un⟩, hwi⟩ : ∃ p, windowP (pAt h.people q) = p := ⟨_, rfl⟩
        rw [hwi] at hW hwb hD2
        have HD2 := Lib.hid hD2
        have hq0 : decide ((q : Int) < 0) = false := by simp
        clear hwi hD2
        dsimp only at hwb hW
        have h8 := World.alloc_heap_new w1 (.cells #[.pointer (some ⟨b, 0, none⟩)] 68)
        go_wp2_with fail
        refine hW.mono ?_
        rintro e w2 ⟨rfl, P2⟩
        have P12 := ((Only.refl (fun _ => False) w1).alloc (.cells #[.pointer (some ⟨b, 0, none⟩)] 68)).trans P2
        have H8 := Lib.hid (P2.heap h8 (fun f => f))
        have H4 := Lib.hid (P12.heap hB4 (fun f => f))
        have HF2 := Lib.hid (HF.out.pure P12)
        have Q2 := Q1.trans P12
        have d8 : w2.cell? ⟨w1.heap.size, 0, none⟩ = some (.pointer (some ⟨b, 0, none⟩)) := cell_of_row _ _ _ _ _ _ H8.out
        clear hW P2 P12 h8 hB4 d1
        by_cases hu : un = 0
        · have HR := Lib.hid (show R = (0, 16) from by rw [HD2.out, if_pos hu])
          have hu' : (un == 0) = true := by simpa using hu
          go_wp2
          go_ret2
          exact ⟨by rw [HR.out]; rfl, Q2⟩
        · have hu' : (un == 0) = false := by simpa using hu
          have hLa := lasts_any _ b h w2 HF2.out v30
          go_wp2_with fail
          clear hu'
          refine hLa.mono ?_
          rintro e w3 ⟨v, rfl, ho, P3⟩
          rw [lastsOf_len, ← HL.out] at ho
          obtain ⟨ao, cap', rfl, _, _, hno, hgo⟩ := owns_form ho
          obtain ⟨g0, rfl⟩ : ∃ x, ao = some x := by
            cases ao with
            | none => have := (hno rfl).1; omega
            | some x => exact ⟨x, rfl⟩
          obtain ⟨g, rfl, _⟩ := hgo _ rfl
          clear hno hgo
          have Q3 := Q2.trans P3
          have h12 := World.alloc_heap_new w3 (.cells #[.slice (some ⟨g, 0, none⟩) len cap'] 25)
          have hLt : Lating w b w1.heap.size w3.heap.size len h kn (.slice (some ⟨g, 0, none⟩) len cap') (lastsOf h) (w3.alloc (.cells #[.slice (some ⟨g, 0, none⟩) len cap'] 25)) := by
            have hPa : Pure w3 (w3.alloc (.cells #[.slice (some ⟨g, 0, none⟩) len cap'] 25)) := (Only.refl _ w3).alloc _
            obtain ⟨pv, hb, hpe⟩ := HF2.out.pure (P3.trans hPa)
            exact ⟨(P3.trans hPa).heap H4.out (fun f => f), (P3.trans hPa).heap H8.out (fun f => f), h12, owns_pure (owns_le ho Q2.size) hPa, ⟨pv, hb, hpe⟩, Q3.trans hPa⟩
          have HLT := Lib.hid hLt
          have hgl := (owns_lt hLt.row g rfl).2
          clear hLa ho P3 h12 hLt d8 Q2 Q3
          have hfit : ∀ come W, Lating w b w1.heap.size w3.heap.size len h kn (.slice (some ⟨g, 0, none⟩) len cap') come W →
              Calls Try.prog 51 #[.pointer (some ⟨w1.heap.size, 0, none⟩), .pointer (some ⟨w.heap.size + 1, 0, none⟩), .pointer (some ⟨w3.heap.size, 0, none⟩)] W fun e w' => e = .returned (.bool (fitsOf h kn come)) ∧ Pure W w' := fun come W hW => by
            have hcl : come.length = len := by have := hW.row.1; simp at this; omega
            exact fits_any (fun k => k < w.heap.size) _ b _ _ _ h kn come _ W (cell_of_row _ _ _ _ _ _ hW.b8) (cell_of_row _ _ _ _ _ _ hW.b4) (cell_of_row _ _ _ _ _ _ hW.b12) hW.floor (owns_ints (by rw [hcl]; exact hW.row)) (by rw [hcl]; exact HL.out) v30 v1 v60 (by omega)
          have HFIT := Lib.hid hfit
          clear hfit
          obtain ⟨f0, hf0⟩ : ∃ f, fitsOf h kn (lastsOf h) = f := ⟨_, rfl⟩
          have HF0 := Lib.hid hf0
          clear hf0
          go_wp2_with fail
          refine (HFIT.out _ _ HLT.out).mono ?_
          rintro e w4 ⟨rfl, P4⟩
          have HLT4 := Lib.hid (HLT.out.keep P4)
          rw [HF0.out]
          clear P4
          cases f0 with
          | false =>
            have HR := Lib.hid (show R = (0, 23) from by rw [HD2.out, if_neg hu, if_pos HF0.out])
            go_wp2
            go_ret2
            exact ⟨by rw [HR.out]; rfl, HLT4.out.pure⟩
          | true =>
            have HR := Lib.hid (show R = (lateFrom h kn q un 60 la (lastsOf h), 0) from by rw [HD2.out, if_neg hu, if_neg (by rw [HF0.out]; simp)])
            go_wp2_with fail
            go_loopw [10] (fun i wr => ∃ (f : Nat) (l : Int) (come : List Int), i = .int .i64 l ∧ 0 ≤ l ∧ l ≤ un ∧ un - l ≤ f ∧ Hid (R = (lateFrom h kn q un f l come, 0)) ∧ Lating w b w1.heap.size w3.heap.size len h kn (.slice (some ⟨g, 0, none⟩) len cap') come wr) (fun i _ => (un - intOf i).toNat)
            case atStart => exact ⟨60, la, _, rfl, by omega, by omega, by omega, HR, HLT4.out⟩
            case round =>
              clear HLT4
              obtain ⟨f, l, come, rfl, hl0, hl1, hlf, hI, hLt⟩ := hrel
              have HLt := Lib.hid hLt
              by_cases hlt : l < un
              · obtain ⟨f', rfl⟩ : ∃ f', f = f' + 1 := ⟨f - 1, by omega⟩
                have hcl : come.length = len := by have := hLt.row.1; simp at this; omega
                have e12 : wr.cell? ⟨w3.heap.size, 0, none⟩ = some (.slice (some ⟨g, 0, none⟩) len cap') := cell_of_row _ _ _ _ _ _ hLt.b12
                have eq0 := hLt.row.cellAt q (by omega)
                have eqf := hLt.row.frozenAt q
                have hcq : (come.map (Value.int .i64))[q]? = some (.int .i64 (come[q]?.getD 0)) := by simp [hcl, hql]
                rw [hcq] at eq0
                have hstep : lateFrom h kn q un (f' + 1) l come = if fitsOf h kn (come.set q (wrap64 (come[q]?.getD 0 + 1))) then lateFrom h kn q un f' (l + 1) (come.set q (wrap64 (come[q]?.getD 0 + 1))) else l := by
                  show (if l < un then _ else l) = _
                  rw [if_pos hlt]
                obtain ⟨c, hc⟩ : ∃ c, come[q]?.getD 0 = c := ⟨_, rfl⟩
                rw [hc] at eq0 hstep
                have HLs := Lib.hid (HLt.out.store q (wrap64 (c + 1)))
                obtain ⟨fb, hfb⟩ : ∃ f, fitsOf h kn (come.set q (wrap64 (c + 1))) = f := ⟨_, rfl⟩
                have HFB := Lib.hid hfb
                rw [hfb] at hstep
                have HST := Lib.hid hstep
                clear hLt hcl hcq hc hfb hstep
                go_wp2_with fail
                refine (HFIT.out _ _ HLs.out).mono ?_
                rintro e w5 ⟨rfl, P5⟩
                have HLk := Lib.hid (HLs.out.keep P5)
                rw [HFB.out]
                clear P5 e12 eq0 eqf
                cases fb with
                | true =>
                  have HI := Lib.hid (show R = (lateFrom h kn q un f' (l + 1) (come.set q (wrap64 (c + 1))), 0) from by rw [hI.out, HST.out]; rfl)
                  go_wp2
                  go_roundw
                  case rel => exact ⟨f', l + 1, _, rfl, by omega, by omega, by omega, HI, HLk.out⟩
                  case measure => simp [intOf]; omega
                | false =>
                  have HI := Lib.hid (show R = (l, 0) from by rw [hI.out, HST.out]; rfl)
                  go_wp2
                  go_ret2
                  exact ⟨by rw [HI.out]; rfl, HLk.out.pure⟩
              · have HI := Lib.hid (show R = (l, 0) from by
                  rw [hI.out]
                  cases f with
                  | zero => rfl
                  | succ f => show ((if l < un then _ else l), _) = _; rw [if_neg hlt])
                clear hLt
                go_wp2
                go_ret2
                exact ⟨by rw [HI.out]; rfl, HLt.out.pure⟩
end Go.Proofs.Ytbiffhekbnmffaa
