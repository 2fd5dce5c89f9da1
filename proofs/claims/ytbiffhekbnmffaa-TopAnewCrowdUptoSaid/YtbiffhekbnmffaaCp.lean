/-
  Machines, Bound.
-/
import Derived.Test.YtbiffhekbnmffaaCo
namespace Go.Proofs.Ytbiffhekbnmffaa
open Go.RowKit Go.Shelf

set_option maxHeartbeats 1000000 in
set_option maxRecDepth 100000 in
theorem fewest_any (D D' : Nat → Prop) (b : Nat) (h : Hall) (come : List Int) (cv : Value) (w : World) (hF : FloorAt D w b h) (hc : Ints D' w cv come) (hlen : come.length = h.people.length) (h30 : h.people.length ≤ 30) (hm0 : 1 ≤ h.minutes) (hm : h.minutes ≤ 60) :
    Calls Try.prog 48 #[.pointer (some ⟨b, 0, none⟩), cv] w fun e w' => e = .returned (.int .i64 (fewestOf h come)) ∧ Pure w w' := by
  have hSv := fun (k : Nat) (hk : k ≤ 30) W (hW : Pure w W) => serve_any D D' b h k come cv W (hF.pure hW) (hc.pure hW) hlen h30 hm0 hm hk
  have hsb := fun (k : Nat) => serveOf_bd h k come (by omega) hm
  have hfe : fewestOf h come = fewestFrom h come 30 0 := rfl
  obtain ⟨R, hR⟩ : ∃ R, fewestOf h come = R := ⟨_, rfl⟩
  rw [hR] at hfe ⊢
  have HSV := Lib.hid hSv; have HSB := Lib.hid hsb; have HFE := Lib.hid hfe
  obtain ⟨a, n, c, rfl⟩ := hc.form
  clear hR hfe hSv hsb hlen hc hF
  go_enter Try.func48, Try.ntmps48
  go_wp2
  go_loopw [11] (fun i wr => ∃ k : Nat, k ≤ 30 ∧ i = .int .i64 k ∧ Hid (R = fewestFrom h come (30 - k) k) ∧ Pure w wr) (fun i _ => 30 - (intOf i).toNat)
  case atStart => exact ⟨0, by omega, rfl, HFE, Only.refl _ _⟩
  case round =>
    obtain ⟨k, hk, rfl, hI, hP⟩ := hrel
    by_cases hlt : k < 30
    · have hs := HSV.out k hk wr hP
      have hbd := HSB.out k
      have hst : fewestFrom h come (30 - k) k = if (serveOf h k come).2 = 0 then (k : Int) else fewestFrom h come (30 - (k + 1)) (k + 1) := by
        obtain ⟨f, hf⟩ : ∃ f, 30 - k = f + 1 := ⟨29 - k, by omega⟩
        rw [hf, show 30 - (k + 1) = f by omega]; rfl
      obtain ⟨⟨o, sh⟩, hso⟩ : ∃ p, serveOf h k come = p := ⟨_, rfl⟩
      rw [hso] at hs hst
      have HST := Lib.hid hst
      clear hso hst hbd
      dsimp only at hs
      go_wp2_with fail
      refine hs.mono ?_
      rintro e w2 ⟨v, rfl, _, P2⟩
      have Q2 := hP.trans P2
      clear hs P2
      by_cases hz : sh = 0
      · have HI := Lib.hid (show R = (k : Int) from by rw [hI.out, HST.out, if_pos hz])
        have hz' : (sh == 0) = true := by simpa using hz
        go_wp2
        go_ret
        exact ⟨by rw [HI.out]; rfl, Q2⟩
      · have HI := Lib.hid (show R = fewestFrom h come (30 - (k + 1)) (k + 1) from by rw [hI.out, HST.out, if_neg hz])
        have hz' : (sh == 0) = false := by simpa using hz
        go_wp2
        go_roundw
        case rel => exact ⟨k + 1, by omega, by go_num, HI, Q2⟩
        case measure => simp [intOf]; omega
    · obtain rfl : k = 30 := by omega
      go_wp2
      go_ret
      exact ⟨by rw [hI.out]; rfl, hP⟩

def losTo (l : List Person) (k : Nat) : List Int := (l.take k).map (·.lo)
theorem losTo_len (l : List Person) (k : Nat) (h : k ≤ l.length) : (losTo l k).length = k := by unfold losTo; simp; omega
theorem losTo_succ (l : List Person) (k : Nat) (h : k < l.length) : (losTo l (k + 1)).map (Value.int .i64) = (losTo l k).map (.int .i64) ++ [.int .i64 (pAt l k).lo] := by
  unfold losTo; rw [map_take_succ (·.lo) l k h]; simp
theorem losTo_all (l : List Person) (k : Nat) (hk : l.length ≤ k) : losTo l k = l.map (·.lo) := by unfold losTo; rw [List.take_of_length_le hk]

/-- The boxes of Machines. -/
def Box2 (w : World) (m : Int) (pv : Value) (W : World) : Prop :=
  W.heap[w.heap.size]? = some (.cells #[.int .i64 m, pv] 24 (0, 0)) ∧ W.heap[w.heap.size + 1]? = some (.cells #[.int .i64 0, .int .i64 0] 46 (0, 0)) ∧ Pure w W
theorem box2_start (w : World) (m : Int) (pv : Value) : Box2 w m pv ((w.alloc (.cells #[.int .i64 m, pv] 24)).alloc (.cells #[.int .i64 0, .int .i64 0] 46)) := by
  have h0 := World.alloc_heap_new w (.cells #[.int .i64 m, pv] 24)
  have h1 := World.alloc_heap_new (w.alloc (.cells #[.int .i64 m, pv] 24)) (.cells #[.int .i64 0, .int .i64 0] 46)
  rw [World.size_alloc] at h1
  exact ⟨(Below.heap_alloc _ _ _ (lt_of_block h0)).trans h0, h1, ((Only.refl _ w).alloc _).alloc _⟩
theorem box2_pure {w W W' : World} {m : Int} {pv : Value} (h : Box2 w m pv W) (hp : Pure W W') : Box2 w m pv W' := ⟨hp.heap h.1 (fun f => f), hp.heap h.2.1 (fun f => f), h.2.2.trans hp⟩
/-- What two stores into the result's box leave. -/
theorem box2_out {w W : World} {m : Int} {pv : Value} (h : Box2 w m pv W) (x y : Int) :
    (W.setCell ⟨w.heap.size + 1, 0, none⟩ (.int .i64 x)).cell? ⟨w.heap.size + 1, 0, none⟩ = some (.int .i64 x) ∧ ((W.setCell ⟨w.heap.size + 1, 0, none⟩ (.int .i64 x)).setCell ⟨w.heap.size + 1, 1, none⟩ (.int .i64 y)).cell? ⟨w.heap.size + 1, 1, none⟩ = some (.int .i64 y) ∧
    Pure w ((W.setCell ⟨w.heap.size + 1, 0, none⟩ (.int .i64 x)).setCell ⟨w.heap.size + 1, 1, none⟩ (.int .i64 y)) := by
  have s1 := heap_setCell_same W _ 0 _ _ (.int .i64 x) h.2.1
  have s2 := heap_setCell_same _ _ 1 _ _ (.int .i64 y) s1
  exact ⟨cell_of_row _ _ _ _ _ _ s1, cell_of_row _ _ _ _ _ _ s2, h.2.2.trans' (((Only.refl (fun i => i = w.heap.size + 1) W).setCell (p := ⟨w.heap.size + 1, 0, none⟩) (.inl rfl) (.int .i64 x)).setCell (p := ⟨w.heap.size + 1, 1, none⟩) (.inl rfl) (.int .i64 y)) (fun i hi e => by have e' : i = w.heap.size + 1 := e; omega)⟩

set_option maxHeartbeats 4000000 in
set_option maxRecDepth 100000 in
theorem Machines_any (D : Nat → Prop) (pv : Value) (h : Hall) (w : World) (hv : People D w pv h.people) :
    Calls Try.prog 18 #[.agg #[.int .i64 h.minutes, pv]] w fun e w' => e = .returned (.tuple #[.agg #[.int .i64 (machinesR h).1, .int .i64 (machinesR h).2.1], .int .i64 (machinesR h).2.2]) ∧ Pure w w' := by
  have hB0 := box2_start w h.minutes pv
  have hC := open_any D pv h _ (hv.pure hB0.2.2)
  have hS := @valid_of h
  have hdef : machinesR h = if checkHall h ≠ 0 then (0, 0, checkHall h) else (fewestOf h (h.people.map (·.lo)), fewestOf h (lastsOf h), 0) := rfl
  obtain ⟨i0, hi, hz0, hz1, hz2⟩ := info_parts infoI64
  obtain ⟨a, len, cap, rfl, hlen, _, hm, hc⟩ := hv
  obtain ⟨s, hs⟩ : ∃ s, checkHall h = s := ⟨_, rfl⟩
  rw [hs] at hC hS hdef
  obtain ⟨R, hRR⟩ : ∃ R, machinesR h = R := ⟨_, rfl⟩
  rw [hRR] at hdef ⊢
  have HD := Lib.hid hdef; have HS := Lib.hid hS; have HB0 := Lib.hid hB0; have HL := Lib.hid hlen; have HC := Lib.hid hc
  clear hs hRR hdef hS hB0 hlen hc
  go_enter Try.func18, Try.ntmps18
  go_wp2_with fail
  refine hC.mono ?_
  rintro e w1 (⟨h0, rfl, P1⟩ | ⟨rfl, b, rfl, hb, hF, P1⟩)
  · have hB1 := box2_pure HB0.out P1
    have k0 : w1.cell? ⟨w.heap.size + 1, 0, none⟩ = some (.int .i64 0) := cell_of_row _ _ _ _ _ _ hB1.2.1
    have k1 : w1.cell? ⟨w.heap.size + 1, 1, none⟩ = some (.int .i64 0) := cell_of_row _ _ _ _ _ _ hB1.2.1
    have f1 := fun j => arr_frozen hB1.2.1 j
    have hR : R = (0, 0, s) := by rw [HD.out, if_pos h0]
    have HO := Lib.hid (box2_out hB1 0 0)
    have HR := Lib.hid hR
    clear hC P1 hR hB1
    go_wp2
    obtain ⟨E0, E1, P⟩ := HO.out
    exact bodyPost_ret (v := .tuple #[.agg #[.int .i64 0, .int .i64 0], .int .i64 s]) (by simp [results, Try.results18, go_sem, E0, E1]) rfl ⟨by rw [HR.out], P⟩
  · have HB1 := Lib.hid (box2_pure HB0.out P1)
    have HF := Lib.hid hF
    obtain ⟨v1, v60, v30, vall⟩ := HS.out rfl
    rw [← HL.out] at v30
    have d1 : w1.cell? ⟨w.heap.size, 1, none⟩ = some (.slice a len cap) := cell_of_row _ _ _ _ _ _ HB1.out.1
    clear hC P1 hF vall
    go_wp2_with fail
    clear d1
    go_loopw [21, 6] (fun i al wr => ∃ (k : Nat) (ao : Option Addr) (ac : Nat), k ≤ len ∧ i = .int .i64 k ∧ al = .slice ao k ac ∧ k ≤ ac ∧ Hid (wr.ownsRow w1.heap.size 2 1 (.slice ao k ac) k ((losTo h.people k).map (.int .i64))) ∧ Pure w1 wr) (fun i _ _ => len - (intOf i).toNat)
    case atStart => exact ⟨0, none, 0, Nat.zero_le _, rfl, rfl, Nat.le_refl _, Lib.hid (World.ownsRow_nil _ _ _ _), Only.refl _ _⟩
    case round =>
      obtain ⟨k, ao, ac, hk, rfl, rfl, hac, hrow, hP⟩ := hrel
      by_cases hlt : k < len
      · obtain ⟨g, off, rfl, _, c0, c1, c2⟩ := HC.out k hlt
        have Q := HB1.out.2.2.trans hP
        have h0 := Q.cell c0 (fun f => f)
        have h1 := Q.cell c1 (fun f => f)
        have h2 := Q.cell c2 (fun f => f)
        have hts := Lib.hid (losTo_succ h.people k (by rw [← HL.out]; exact hlt))
        obtain ⟨p, hp⟩ : ∃ p, pAt h.people k = p := ⟨_, rfl⟩
        rw [hp] at h0 h1 h2 hts
        clear hp c0 c1 c2
        have hwz := hP.size
        have HP := Lib.hid hP
        clear hP Q
        go_wp2_with (at_builtin; refine wpList_append_own_at _ rfl _ _ 25 rfl w1.heap.size 2 i0 (.int .i64 0) 1 8 Try.underlying25 hi hz0 hz1 hz2 rfl (by decide) _ _ _ rfl (owns_pure hrow.out (((Only.refl _ wr).alloc _).alloc _)) ⟨wr.heap.size + 1, 0, none⟩ 1 1 [.int .i64 p.lo] rfl rfl ?c1 ?c2 ?c3 ?c4 ?c5 ?_)
        case c1 => intro j u hu; rcases j with _ | j <;> simp at hu; subst hu; simp [Addr.add]
        case c2 => intro u hu; simp at hu; subst hu; rfl
        case c3 => unfold maxLen; omega
        case c4 => omega
        case c5 => simp; omega
        intro v' w3 hown hg _ hat
        obtain ⟨ao', ac', rfl, hle', _, hn', _⟩ := owns_form hown
        have hP3 : Pure w1 w3 := by
          refine HP.out.trans' ((((Only.refl (fun i => (Value.slice ao k ac).ownBlock = some i) wr).alloc _).alloc _).grown hg (fun k e => .inl e)) (fun i hi e => ?_)
          have := (owns_lt hrow.out i e).1
          omega
        have HR := Lib.hid (show w3.ownsRow w1.heap.size 2 1 (.slice ao' (k + 1) ac') (k + 1) ((losTo h.people (k + 1)).map (.int .i64)) from by rw [hts.out]; exact hown)
        clear hown hg hat
        go_wp2
        go_roundw
        case rel => exact ⟨k + 1, ao', ac', by omega, by go_num, rfl, hle', HR, hP3⟩
        case measure => simp [intOf]; omega
      · have hall : losTo h.people k = h.people.map (·.lo) := losTo_all h.people k (by rw [← HL.out]; omega)
        have hrw := hrow.out
        rw [hall] at hrw
        have hkl : k = (h.people.map (·.lo)).length := by have := hrw.1; simp at this; simp; omega
        have v30' : h.people.length ≤ 30 := by rw [← HL.out]; exact v30
        have hf1 := fewest_any D _ b h (h.people.map (·.lo)) (.slice ao k ac) wr (HF.out.pure hP) (owns_ints (by rw [← hkl]; exact hrw)) (by simp) v30' v1 v60
        have hHF := Lib.hid (HF.out.pure hP)
        have HBr := Lib.hid (box2_pure HB1.out hP)
        obtain ⟨x, hx⟩ : ∃ x, fewestOf h (h.people.map (·.lo)) = x := ⟨_, rfl⟩
        rw [hx] at hf1
        have HX := Lib.hid hx
        clear hall hrw hkl hP hrow hx
        go_wp2_with fail
        refine hf1.mono ?_
        rintro e w2 ⟨rfl, P2⟩
        have hLa := lasts_any D b h w2 (hHF.out.pure P2) v30'
        clear hf1
        go_wp2_with fail
        refine hLa.mono ?_
        rintro e w3 ⟨v, rfl, ho, P3⟩
        have hf2 := fewest_any D _ b h (lastsOf h) v w3 ((hHF.out.pure P2).pure P3) (owns_ints ho) (lastsOf_len h) v30' v1 v60
        obtain ⟨y, hy⟩ : ∃ x, fewestOf h (lastsOf h) = x := ⟨_, rfl⟩
        rw [hy] at hf2
        have HY := Lib.hid hy
        have HB3 := Lib.hid (box2_pure HBr.out (P2.trans P3))
        clear hLa ho hy P2 P3
        go_wp2_with fail
        refine hf2.mono ?_
        rintro e w4 ⟨rfl, P4⟩
        have hB4 := box2_pure HB3.out P4
        have k0 : w4.cell? ⟨w.heap.size + 1, 0, none⟩ = some (.int .i64 0) := cell_of_row _ _ _ _ _ _ hB4.2.1
        have k1 : w4.cell? ⟨w.heap.size + 1, 1, none⟩ = some (.int .i64 0) := cell_of_row _ _ _ _ _ _ hB4.2.1
        have f1 := fun j => arr_frozen hB4.2.1 j
        have HO := Lib.hid (box2_out hB4 x y)
        have hR : R = (x, y, 0) := by rw [HD.out, if_neg (by simp), HX.out, HY.out]
        have HR := Lib.hid hR
        clear hf2 P4 hR hB4
        go_wp2
        obtain ⟨E0, E1, P⟩ := HO.out
        exact bodyPost_ret (v := .tuple #[.agg #[.int .i64 x, .int .i64 y], .int .i64 0]) (by simp [results, Try.results18, go_sem, E0, E1]) rfl ⟨by rw [HR.out], P⟩

set_option maxHeartbeats 4000000 in
set_option maxRecDepth 100000 in
theorem Bound_any (D : Nat → Prop) (pv : Value) (h : Hall) (x y : Int) (w : World) (hv : People D w pv h.people) :
    Calls Try.prog 21 #[.agg #[.int .i64 h.minutes, pv], .int .i64 x, .int .i64 y] w fun e w' => e = .returned (.tuple #[.int .i64 (boundR h x y).1, .int .i64 (boundR h x y).2]) ∧ Pure w w' := by
  have hP0 : Pure w (w.alloc (Obj.cells #[.int .i64 h.minutes, pv] 24)) := (Only.refl _ w).alloc _
  have hC := open_any D pv h _ (hv.pure hP0)
  have hS := @valid_of h
  have hdef : boundR h x y = if checkHall h ≠ 0 then (0, checkHall h) else if y < x ∨ withinB 1 h.minutes [x, y] = false then (0, 3) else (boundOf h.people (x, y), 0) := rfl
  obtain ⟨a, len, cap, rfl⟩ : ∃ a n c, pv = .slice a n c := by obtain ⟨a, n, c, hv, _⟩ := hv; exact ⟨a, n, c, hv⟩
  obtain ⟨s, hs⟩ : ∃ s, checkHall h = s := ⟨_, rfl⟩
  rw [hs] at hC hS hdef
  obtain ⟨R, hRR⟩ : ∃ R, boundR h x y = R := ⟨_, rfl⟩
  rw [hRR] at hdef ⊢
  have HD := Lib.hid hdef; have HS := Lib.hid hS
  clear hs hRR hdef hS hv
  go_enter Try.func21, Try.ntmps21
  go_wp2_with fail
  refine hC.mono ?_
  rintro e w1 (⟨h0, rfl, P1⟩ | ⟨rfl, b, rfl, hb, hF, P1⟩)
  · have Q1 := hP0.trans P1
    have HR := Lib.hid (show R = (0, s) from by rw [HD.out, if_pos h0])
    clear hC P1 hP0
    go_wp2
    go_ret2
    exact ⟨by rw [HR.out]; rfl, Q1⟩
  · have Q1 := hP0.trans P1
    have d0 := P1.cell (p := ⟨w.heap.size, 0, none⟩) (v := .int .i64 h.minutes) (by simp) (fun f => f)
    have HF := Lib.hid hF
    obtain ⟨v1, v60, v30, _⟩ := HS.out rfl
    clear hC P1 hP0 hF
    by_cases hxy : y < x
    · have HR := Lib.hid (show R = (0, 3) from by rw [HD.out, if_neg (by simp), if_pos (.inl hxy)])
      go_wp2
      go_ret2
      exact ⟨by rw [HR.out]; rfl, Q1⟩
    · go_wp2_with fail
      refine (within_two 1 h.minutes x y _ _ (by simp) (by simp)).mono ?_
      rintro e w2 ⟨rfl, P2⟩
      have Q2 := Q1.trans P2.of_alloc
      have HF2 := Lib.hid (HF.out.pure P2.of_alloc)
      clear P2
      cases hw : withinB 1 h.minutes [x, y] with
      | false =>
        have HR := Lib.hid (show R = (0, 3) from by rw [HD.out, if_neg (by simp), if_pos (.inr hw)])
        clear hw
        go_wp2
        go_ret2
        exact ⟨by rw [HR.out]; rfl, Q2⟩
      | true =>
        have HR := Lib.hid (show R = (boundOf h.people (x, y), 0) from by rw [HD.out, if_neg (by simp), if_neg (by rw [hw]; simp [hxy])])
        have hwb : 1 ≤ x ∧ y ≤ h.minutes := by
          simp only [withinB, outB, List.any_cons, List.any_nil, Bool.or_false, Bool.not_eq_true', Bool.or_eq_false_iff, decide_eq_false_iff_not] at hw
          omega
        have hbo := bound_any D b h (x, y) w2 HF2.out v30 (by dsimp only; omega) (by dsimp only; omega) (by dsimp only; omega)
        clear hw
        dsimp only at hbo
        go_wp2_with fail
        refine hbo.mono ?_
        rintro e w3 ⟨rfl, P3⟩
        have HQ := Lib.hid (Q2.trans P3)
        clear P3 hbo
        go_wp2
        go_ret2
        exact ⟨by rw [HR.out]; rfl, HQ.out⟩
end Go.Proofs.Ytbiffhekbnmffaa
