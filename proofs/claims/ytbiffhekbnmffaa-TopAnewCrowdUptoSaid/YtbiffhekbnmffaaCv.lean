/-
  Room, walked.
-/
import Derived.Test.YtbiffhekbnmffaaCu
namespace Go.Proofs.Ytbiffhekbnmffaa
open Go.RowKit Go.Shelf
attribute [local go_sem] Oper.semAt_some

set_option maxHeartbeats 8000000 in
set_option maxRecDepth 100000 in
theorem Room_any (D : Nat → Prop) (pv : Value) (h : Hall) (k m : Int) (w : World) (hv : People D w pv h.people) :
    Calls Try.prog 32 #[.agg #[.int .i64 h.minutes, pv], .int .i64 k, .int .i64 m] w fun e w' => e = .returned (.tuple #[.int .i64 (roomR h k m).1, .int .i64 (roomR h k m).2]) ∧ Pure w w' := by
  replace hv : People (fun k => k < w.heap.size) w pv h.people := by
    obtain ⟨a, n, c, rfl, h1, h2, h3, h4⟩ := hv
    exact ⟨a, n, c, rfl, h1, h2, h3, fun i hi => by obtain ⟨b, o, e, d, r0, r⟩ := h4 i hi; exact ⟨b, o, e, World.block_lt_of_cell? w _ r0, r0, r⟩⟩
  obtain ⟨X, hX⟩ : ∃ X, X = ((((w.alloc (Obj.cells #[.int .i64 h.minutes, pv] 24)).alloc (.cells #[.int .i64 k] 3)).alloc (.cells #[.int .i64 m] 2)).alloc (.cells #[.int .i64 0] 3)).alloc (.cells #[.int .i64 0] 35) := ⟨_, rfl⟩
  have hP0 : Pure w X := by rw [hX]; exact (((((Only.refl _ w).alloc _).alloc _).alloc _).alloc _).alloc _
  have hX5 : X.heap.size = w.heap.size + 5 := by rw [hX]; simp
  have hX0 : X.heap[w.heap.size]? = some (.cells #[.int .i64 h.minutes, pv] 24 (0, 0)) ∧ X.heap[w.heap.size + 1]? = some (.cells #[.int .i64 k] 3 (0, 0)) ∧ X.heap[w.heap.size + 2]? = some (.cells #[.int .i64 m] 2 (0, 0)) ∧ X.heap[w.heap.size + 3]? = some (.cells #[.int .i64 0] 3 (0, 0)) ∧ X.heap[w.heap.size + 4]? = some (.cells #[.int .i64 0] 35 (0, 0)) := by
    have k0 := World.alloc_heap_new w (.cells #[.int .i64 h.minutes, pv] 24)
    have k1 := World.alloc_heap_new (w.alloc (Obj.cells #[.int .i64 h.minutes, pv] 24)) (.cells #[.int .i64 k] 3)
    have k2 := World.alloc_heap_new ((w.alloc (Obj.cells #[.int .i64 h.minutes, pv] 24)).alloc (.cells #[.int .i64 k] 3)) (.cells #[.int .i64 m] 2)
    have k3 := World.alloc_heap_new (((w.alloc (Obj.cells #[.int .i64 h.minutes, pv] 24)).alloc (.cells #[.int .i64 k] 3)).alloc (.cells #[.int .i64 m] 2)) (.cells #[.int .i64 0] 3)
    have k4 := World.alloc_heap_new ((((w.alloc (Obj.cells #[.int .i64 h.minutes, pv] 24)).alloc (.cells #[.int .i64 k] 3)).alloc (.cells #[.int .i64 m] 2)).alloc (.cells #[.int .i64 0] 3)) (.cells #[.int .i64 0] 35)
    simp only [World.size_alloc] at k1 k2 k3 k4
    have up : ∀ {W : World} {k : Nat} {o o' : Obj}, W.heap[k]? = some o → (W.alloc o').heap[k]? = some o := fun h => (Below.heap_alloc _ _ _ (lt_of_block h)).trans h
    rw [hX]
    exact ⟨up (up (up (up k0))), up (up (up k1)), up (up k2), up k3, k4⟩
  have hC := staffed_any _ pv h k X (hv.pure hP0)
  have hS := @staffed_of h k
  have hdef : roomR h k m = if staffedE h k ≠ 0 then (0, staffedE h k) else if withinB 1 h.minutes [m] = false then (0, 3) else match roomTo h k m (spansOf h.minutes.toNat) with | none => (0, 23) | some r => (r, 0) := rfl
  obtain ⟨a, len, cap, rfl⟩ : ∃ a n c, pv = .slice a n c := by obtain ⟨a, n, c, hv, _⟩ := hv; exact ⟨a, n, c, hv⟩
  obtain ⟨s, hs⟩ : ∃ s, staffedE h k = s := ⟨_, rfl⟩
  rw [hs] at hC hS hdef
  obtain ⟨R, hRR⟩ : ∃ R, roomR h k m = R := ⟨_, rfl⟩
  rw [hRR] at hdef ⊢
  have HD := Lib.hid hdef; have HS := Lib.hid hS; have HV := Lib.hid hv; have HX := Lib.hid hX0; have HP0 := Lib.hid hP0; have HX5 := Lib.hid hX5
  rw [hX] at hC
  have HXE := Lib.hid hX
  clear hs hRR hdef hS hv hX0 hP0 hX5 hX
  refine (callsIn_wide (n := 10)).1 ?_
  refine callsIn_of_wp_marks Try.func32 rfl trivial ?_ rfl
  simp only [Try.ntmps32, List.size_toArray, List.length_cons, List.length_nil, Nat.reduceAdd, Nat.reduceSub, Array.replicate_succ, Array.replicate_zero, List.push_toArray, List.append_toArray, List.nil_append, List.cons_append]
  gi_wp2_with fail
  refine ⟨trivial, (callsIn_wide.2 hC).mono ?_⟩
  rw [← HXE.out]
  have hX5 := HX5.out
  rintro e w1 (⟨h0, rfl, P1⟩ | ⟨rfl, b, rfl, hb, hF, P1⟩)
  · obtain ⟨x0, x1, x2, x3, x4⟩ := HX.out
    have b3 := P1.heap x3 (fun f => f)
    have b4 := P1.heap x4 (fun f => f)
    have f3 : ∀ j, w1.frozen? ⟨w.heap.size + 1 + 1 + 1, j, none⟩ = false := fun j => arr_frozen b3 j
    have f4 : ∀ j, w1.frozen? ⟨w.heap.size + 1 + 1 + 1 + 1, j, none⟩ = false := fun j => arr_frozen b4 j
    have c3 : w1.cell? ⟨w.heap.size + 1 + 1 + 1, 0, none⟩ = some (.int .i64 0) := cell_of_row _ _ _ _ _ _ b3
    have c4 : w1.cell? ⟨w.heap.size + 1 + 1 + 1 + 1, 0, none⟩ = some (.int .i64 0) := cell_of_row _ _ _ _ _ _ b4
    have hsz : w.heap.size + 1 + 1 + 1 + 1 < w1.heap.size := lt_of_block b4
    have hsz3 : w.heap.size + 1 + 1 + 1 < w1.heap.size := lt_of_block b3
    have HO := Lib.hid (res32_store b3 b4 0 s)
    have HPP := Lib.hid (pure_of_below ((((below_of_pure (HP0.out.trans P1) (Nat.le_refl _)).setCell (p := ⟨w.heap.size + 3, 0, none⟩) (by simp) (.int .i64 0)).setCell (p := ⟨w.heap.size + 4, 0, none⟩) (by simp) (.int .i64 s)).alloc (by simp; omega) (.cells #[.pointer none] 68)))
    have HR := Lib.hid (show R = (0, s) from by rw [HD.out, if_pos h0])
    have HN := Lib.hid (And.intro ((Below.heap_alloc _ (.cells #[.pointer none] 68) _ (lt_of_block HO.out.1)).trans HO.out.1) ((Below.heap_alloc _ (.cells #[.pointer none] 68) _ (lt_of_block HO.out.2)).trans HO.out.2))
    clear hC P1 x0 x1 x2 x3 x4 b3 b4
    gi_wp2
    exact ⟨.tuple #[.int .i64 0, .int .i64 s], results32 _ _ _ _ _ _ HN.out.1 HN.out.2 rfl rfl, by rw [HR.out], HPP.out⟩
  · obtain ⟨x0, x1, x2, x3, x4⟩ := HX.out
    replace x0 := P1.heap x0 (fun f => f)
    replace x1 := P1.heap x1 (fun f => f)
    replace x2 := P1.heap x2 (fun f => f)
    replace x3 := P1.heap x3 (fun f => f)
    replace x4 := P1.heap x4 (fun f => f)
    have hsz4 : w.heap.size + 1 + 1 + 1 + 1 < w1.heap.size := lt_of_block x4
    have hsz3 : w.heap.size + 1 + 1 + 1 < w1.heap.size := lt_of_block x3
    have hsz2 : w.heap.size + 1 + 1 < w1.heap.size := lt_of_block x2
    have hsz1 : w.heap.size + 1 < w1.heap.size := lt_of_block x1
    have hsz0 : w.heap.size < w1.heap.size := lt_of_block x0
    have d0 : w1.cell? ⟨w.heap.size, 0, none⟩ = some (.int .i64 h.minutes) := cell_of_row _ _ _ _ _ _ x0
    have d2 : w1.cell? ⟨w.heap.size + 1 + 1, 0, none⟩ = some (.int .i64 m) := cell_of_row _ _ _ _ _ _ x2
    obtain ⟨hch, hk0, hk30⟩ := HS.out rfl
    obtain ⟨v1, v60, v30, _⟩ := valid_of hch
    obtain ⟨M, hM⟩ : ∃ M : Nat, h.minutes = M := ⟨h.minutes.toNat, by omega⟩
    obtain ⟨pv, hfb, hpe⟩ := hF
    have hb0 := lt_of_block hfb
    rw [hM] at hfb
    have hD2 := HD.out
    rw [if_neg (by simp), hM, Int.toNat_natCast] at hD2
    have HD2 := Lib.hid hD2; have HM := Lib.hid hM
    have hbw : w.heap.size ≤ b := by omega
    have HW1 := Lib.hid (And.intro x1 (And.intro x2 (And.intro x3 (And.intro x4 (And.intro hfb hpe)))))
    have hM60 : M ≤ 60 := by omega
    have HP1 := Lib.hid P1
    rw [hM] at d0
    clear hC P1 x0 x1 x2 x3 x4 hD2 hfb hM hb hpe hX5 HX
    gi_wp2_with fail
    refine ⟨trivial, (callsIn_wide.2 (within_one 1 M m _ _ ?_)).mono ?_⟩
    · simp
    rintro e w2 ⟨rfl, P2⟩
    have Q2 := Lib.hid ((((Only.refl (fun _ => False) w1).alloc (.cells #[.pointer (some ⟨b, 0, none⟩)] 68)).alloc (.cells #[.int .i64 m] 2)).trans P2)
    have HW2 : Hid (w2.heap[w.heap.size + 1]? = some (.cells #[.int .i64 k] 3 (0, 0)) ∧ w2.heap[w.heap.size + 2]? = some (.cells #[.int .i64 m] 2 (0, 0)) ∧ w2.heap[w.heap.size + 3]? = some (.cells #[.int .i64 0] 3 (0, 0)) ∧ w2.heap[w.heap.size + 4]? = some (.cells #[.int .i64 0] 35 (0, 0)) ∧ w2.heap[w1.heap.size]? = some (.cells #[.pointer (some ⟨b, 0, none⟩)] 68 (0, 0)) ∧ w2.heap[b]? = some (.cells #[.int .i64 M, pv] 98 (0, 0)) ∧ People (fun k => k < w.heap.size) w2 pv h.people ∧ Below w.heap.size w w2) := by
      obtain ⟨q1, q2, q3, q4, q5, q6⟩ := HW1.out
      have q := Q2.out
      have kb := World.alloc_heap_new w1 (.cells #[.pointer (some ⟨b, 0, none⟩)] 68)
      exact Lib.hid ⟨q.heap q1 (fun f => f), q.heap q2 (fun f => f), q.heap q3 (fun f => f), q.heap q4 (fun f => f), P2.heap (((Below.heap_alloc _ (.cells #[.int .i64 m] 2) _ (lt_of_block kb)).trans kb)) (fun f => f), q.heap q5 (fun f => f), q6.pure q, below_of_pure ((HP0.out.trans HP1.out).trans q) (Nat.le_refl _)⟩
    have hs2 : w1.heap.size + 1 < w2.heap.size := by
      have := P2.size
      simp at this; omega
    clear HP1 HP0 HX5 HXE HS HW1 P2 d0 d2 Q2
    obtain ⟨x1, x2, x3, x4, x5, x6, x7, x8⟩ := HW2.out
    have c3 : w2.cell? ⟨w.heap.size + 1 + 1 + 1, 0, none⟩ = some (.int .i64 0) := cell_of_row _ _ _ _ _ _ x3
    have c4 : w2.cell? ⟨w.heap.size + 1 + 1 + 1 + 1, 0, none⟩ = some (.int .i64 0) := cell_of_row _ _ _ _ _ _ x4
    have f3 : ∀ j, w2.frozen? ⟨w.heap.size + 1 + 1 + 1, j, none⟩ = false := fun j => arr_frozen x3 j
    have f4 : ∀ j, w2.frozen? ⟨w.heap.size + 1 + 1 + 1 + 1, j, none⟩ = false := fun j => arr_frozen x4 j
    cases hwi : withinB 1 (M : Int) [m] with
    | false =>
      have HO := Lib.hid (res32_store x3 x4 0 3)
      have HPP := Lib.hid (pure_of_below ((x8.setCell (p := ⟨w.heap.size + 3, 0, none⟩) (by simp) (.int .i64 0)).setCell (p := ⟨w.heap.size + 4, 0, none⟩) (by simp) (.int .i64 3)))
      have HR := Lib.hid (show R = (0, 3) from by rw [HD2.out, if_pos hwi])
      clear x1 x2 x3 x4 x5 x6 x7 x8 hwi
      gi_wp2
      exact ⟨.tuple #[.int .i64 0, .int .i64 3], results32 _ _ _ _ _ _ HO.out.1 HO.out.2 rfl rfl, by rw [HR.out], HPP.out⟩
    | true =>
      have hD3 := HD2.out
      rw [if_neg (by rw [hwi]; simp)] at hD3
      have HD3 := Lib.hid hD3
      have d1 : w2.cell? ⟨w.heap.size + 1, 0, none⟩ = some (.int .i64 k) := cell_of_row _ _ _ _ _ _ x1
      have d8 : w2.cell? ⟨w1.heap.size, 0, none⟩ = some (.pointer (some ⟨b, 0, none⟩)) := cell_of_row _ _ _ _ _ _ x5
      have hl1 : w1.heap.size < w2.heap.size := by omega
      have hl0 : w.heap.size + 1 < w2.heap.size := by omega
      clear x1 x2 x3 x4 x5 x6 x7 x8 hwi c3 c4 f3 f4 hD3
      gi_wp2_with fail
      refine ⟨trivial, (callsIn_wide.2 (spans_any b _)).mono ?_⟩
      rintro e w3 ⟨rfl, rfl⟩
      gi_wp2_with fail
      refine at_world (fun W => Rooming w w1.heap.size w2.heap.size b M pv h.people h k m [] W ∧ W.heap.size = w2.heap.size + 2) ⟨?_, by simp⟩ ?_
      · obtain ⟨x1, x2, x3, x4, x5, x6, x7, x8⟩ := HW2.out
        have k0 := World.alloc_heap_new w2 (.cells #[.int .i64 k] 3)
        have k1 := World.alloc_heap_new (w2.alloc (.cells #[.int .i64 k] 3)) (.cells #[.pointer (some ⟨b, 0, none⟩)] 68)
        simp only [World.size_alloc] at k1
        have up : ∀ {W : World} {k : Nat} {o o' : Obj}, W.heap[k]? = some o → (W.alloc o').heap[k]? = some o := fun h => (Below.heap_alloc _ _ _ (lt_of_block h)).trans h
        exact ⟨up (up x1), up (up x2), up (up x3), up (up x4), up (up x5), ⟨k, rfl, up k0⟩, k1, up (up x6), (x8.alloc (by omega) _).alloc (by simp; omega) _, x7.pure (((Only.refl _ _).alloc _).alloc _)⟩
      rintro W0 ⟨hI0, hs0⟩
      have hIc := Lib.hid hI0
      have hdet : roomTo h k m [] = some k := rfl
      refine wpIn_rangeFunc_ownH (F := Fence.wide) (n := 10) rfl (by decide) (gf := 68) (lb := #[.pointer (some ⟨w2.heap.size + 1, 0, none⟩)]) rfl trivial (enters_of Try.func68 (by kernel_rfl) rfl) (spans1_stops 9 (w2.heap.size + 1) b M pv W0 (by decide) hM60 hIc.out.seq hIc.out.floor) (fun h k => h.trans k) (fun W l o o' _ h hc _ => Stays.obj W l o o' h hc) (Below.refl _ _) (fun _ => rfl)
        (Rooming w w1.heap.size w2.heap.size b M pv h.people h k m) (fun c pre W => c = .ret ∧ roomTo h k m (vals pre) = none ∧ W.heap[w.heap.size + 3]? = some (.cells #[.int .i64 0] 3 (0, 0)) ∧ W.heap[w.heap.size + 4]? = some (.cells #[.int .i64 23] 35 (0, 0)) ∧ Below w.heap.size w W) (rooming_own _ (by omega)) ?hIx hI0
        (fun x a' W => ∃ Bx, w2.heap.size + 1 < Bx ∧ W.heap[Bx]? = some (.cells #[.int .i64 x.1.1, .int .i64 x.1.2] 86 (0, 0)) ∧ a' = { tmps := #[.agg #[.int .i64 h.minutes, .slice a len cap], .int .i64 k, .int .i64 m, .pointer (some ⟨w.heap.size, 0, none⟩), .pointer (some ⟨w.heap.size + 1, 0, none⟩), .pointer (some ⟨w.heap.size + 1 + 1, 0, none⟩), .pointer (some ⟨w.heap.size + 1 + 1 + 1, 0, none⟩), .pointer (some ⟨w.heap.size + 1 + 1 + 1 + 1, 0, none⟩), .pointer (some ⟨w1.heap.size, 0, none⟩), .int .i64 0, .pointer (some ⟨w2.heap.size, 0, none⟩), .pointer (some ⟨Bx, 0, none⟩), undef, .tuple #[.pointer (some ⟨b, 0, none⟩), .int .i64 0], .agg #[.int .i64 h.minutes, .slice a len cap], .int .i64 k, .tuple #[.pointer (some ⟨b, 0, none⟩), .int .i64 0], .pointer (some ⟨b, 0, none⟩), .int .i64 0, .bool false, .int .i64 0, .bool false, undef, .bool false, .pointer (some ⟨w.heap.size, 0, none⟩), .int .i64 M, .int .i64 m, .slice (some ⟨w1.heap.size + 1, 0, none⟩) 1 1, .bool true, .bool false, .int .i64 k, .pointer (some ⟨b, 0, none⟩), .func (.func 68) #[] #[.pointer (some ⟨w2.heap.size + 1, 0, none⟩)], .agg #[.int .i64 x.1.1, .int .i64 x.1.2], undef, undef, undef, undef, undef, undef, undef, undef, undef, undef, undef, undef, undef, undef, undef, undef, undef, undef, undef, undef, undef, undef, undef], defers := [] })
        ?hAx ?assign ?body ?done ?stop
      case hIx =>
        intro c s X Y row ⟨h1, h2, h3, h4, h5⟩ hg hr
        have key : ∀ {k : Nat} {cs : Array Value} {t : TypeId}, X.heap[k]? = some (.cells cs t (0, 0)) → Y.heap[k]? = some (.cells cs t (0, 0)) := fun {k cs t} h =>
          (hg.block k (lt_of_block h) (fun e => by obtain ⟨_, o, ho, hc⟩ := hr k e.symm; rw [h] at ho; cases ho; cases hc)).trans h
        exact ⟨h1, h2, key h3, key h4, h5.grown hg h5.size (fun k e => by have := (hr k e).1; omega)⟩
      case hAx =>
        intro x a' s X Y row ⟨Bx, hBx, hc, ha⟩ hg hr
        exact ⟨Bx, hBx, (hg.block Bx (lt_of_block hc) (fun e => by obtain ⟨_, o, ho, hc'⟩ := hr Bx e.symm; rw [hc] at ho; cases ho; cases hc')).trans hc, ha⟩
      case assign =>
        intro l pre x W K hi hK
        have hlt : w2.heap.size + 1 < W.heap.size := lt_of_block hi.seq
        gi_wp2
        exact hK _ _ ((KeepsOthers.alloc _ _).from _) (Stays.pure ((Only.refl _ _).alloc _)) ((rooming_own W0.heap.size (by omega)).alloc _ hi) ⟨W.heap.size, hlt, World.alloc_heap_new W _, rfl⟩
      case body =>
        rintro l pre x a' W hl ⟨r, hr⟩ hI ⟨Bx, hBx, cx, rfl⟩ hlt
        obtain ⟨rm, hrm, hRm⟩ := hI.room
        have hF : FloorAt (fun k => k < w.heap.size) W b h := ⟨pv, by rw [HM.out]; exact hI.floor, hI.people⟩
        have hfalls := fun W' (hW : Pure W W') => falls_any _ b h x.1 W' (hF.pure hW)
        have hlong := fun W' => long_any x.1 W' (by have := x.2; omega) (by have := x.2; omega) (by have := x.2; omega) (by have := x.2; omega)
        have hfb := falls_bd h.people x.1
        have hsn : roomTo h k m (vals (pre ++ [x])) = if k * longOf x.1 - fallsOf h.people x.1 < 0 then none else if withinB x.1.1 x.1.2 [m] then some (min rm (k * longOf x.1 - fallsOf h.people x.1)) else some rm := by
          rw [vals, List.map_append]
          show roomTo h k m (vals pre ++ [x.1]) = _
          rw [roomTo_snoc, hrm]; rfl
        have hlo : 1 ≤ longOf x.1 ∧ longOf x.1 ≤ 60 := by have := x.2; unfold longOf; omega
        obtain ⟨f, hf⟩ : ∃ f, fallsOf h.people x.1 = f := ⟨_, rfl⟩
        obtain ⟨lo, hlo2⟩ : ∃ l, longOf x.1 = l := ⟨_, rfl⟩
        rw [hf] at hfb hsn
        rw [hlo2] at hlo hsn
        simp only [hf] at hfalls
        simp only [hlo2] at hlong
        have hp0 : 0 ≤ k * lo := Int.mul_nonneg hk0 (by omega)
        have hp1 : k * lo ≤ 30 * 60 := Int.mul_le_mul hk30 hlo.2 (by omega) (by omega)
        have E1 := Lib.hid (show wrap64 (k * lo) = k * lo from by unfold wrap64; omega)
        have E2 := Lib.hid (show wrap64 (k * lo - f) = k * lo - f from by unfold wrap64; omega)
        have d4 : W.cell? ⟨w.heap.size + 1, 0, none⟩ = some (.int .i64 k) := cell_of_row _ _ _ _ _ _ hI.kb
        have d8 : W.cell? ⟨w1.heap.size, 0, none⟩ = some (.pointer (some ⟨b, 0, none⟩)) := cell_of_row _ _ _ _ _ _ hI.ptr
        have dx0 : W.cell? ⟨Bx, 0, none⟩ = some (.int .i64 x.1.1) := cell_of_row _ _ _ _ _ _ cx
        have dx1 : W.cell? ⟨Bx, 1, none⟩ = some (.int .i64 x.1.2) := cell_of_row _ _ _ _ _ _ cx
        have HI := Lib.hid hI; have HRM := Lib.hid hrm; have HSN := Lib.hid hsn; have HRM2 := Lib.hid hRm; have HCX := Lib.hid cx; have HFA := Lib.hid hfalls; have HLO := Lib.hid hlong
        clear hI hrm hsn hRm cx hr hf hlo2 hF hfalls hlong hp0 hp1 hlo hfb
        gi_wp2_with fail
        have g0 := fun g => grow_cell d4 g; have g1 := fun g => grow_cell d8 g; have g2 := fun g => grow_cell dx0 g; have g3 := fun g => grow_cell dx1 g
        refine round_region_grow (by kernel_rfl) (by kernel_rfl) (by kernel_rfl) ?_
        repeat (go_big_quiet_step (first | exact calls_grow (HFA.out _ (grow_pure _ _)) | exact calls_grow (HLO.out _)))
        refine wpQuiet_nil ?_
        rintro w' ⟨g, rfl⟩
        rw [E1.out, E2.out]
        obtain ⟨v, hv⟩ : ∃ v, k * lo - f = v := ⟨_, rfl⟩
        rw [hv]
        have hsn := HSN.out
        rw [hv] at hsn
        have hP := grow_pure W g
        obtain ⟨W1, hW1⟩ : ∃ W1, grow W g = W1 := ⟨_, rfl⟩
        rw [hW1] at hP ⊢
        have HK := Lib.hid (And.intro (KeepsFrom.of_grownBy (B := W0.heap.size) (pure_grown hP) (fun j e => by cases e)) (Stays.pure (B := w2.heap.size + 1) (b := b) hP))
        have HI1 := Lib.hid (HI.out.pure hP)
        have HCX1 := Lib.hid (hP.heap HCX.out (fun f => f))
        have HRM1 := Lib.hid (hP.heap HRM2.out (fun f => f))
        have HSN1 := Lib.hid hsn
        have hz := HI1.out
        clear hP hv hsn HSN E1 E2 HI HCX HRM2 HFA HLO g0 g1 g2 g3 d4 d8 dx0 dx1 hW1
        by_cases hneg : v < 0
        · have c3 : W1.cell? ⟨w.heap.size + 1 + 1 + 1, 0, none⟩ = some (.int .i64 0) := cell_of_row _ _ _ _ _ _ hz.r0
          have c4 : W1.cell? ⟨w.heap.size + 1 + 1 + 1 + 1, 0, none⟩ = some (.int .i64 0) := cell_of_row _ _ _ _ _ _ hz.r1
          have f3 : ∀ j, W1.frozen? ⟨w.heap.size + 1 + 1 + 1, j, none⟩ = false := fun j => arr_frozen hz.r0 j
          have f4 : ∀ j, W1.frozen? ⟨w.heap.size + 1 + 1 + 1 + 1, j, none⟩ = false := fun j => arr_frozen hz.r1 j
          have HO := Lib.hid (res32_store hz.r0 hz.r1 0 23)
          have HB := Lib.hid ((hz.below.setCell (p := ⟨w.heap.size + 3, 0, none⟩) (by simp) (.int .i64 0)).setCell (p := ⟨w.heap.size + 4, 0, none⟩) (by simp) (.int .i64 23))
          have HN := Lib.hid (show roomTo h k m (vals (pre ++ [x])) = none from by rw [HSN1.out, if_pos hneg])
          clear hz
          gi_wp2
          exact ⟨HK.out.1.trans (((KeepsOthers.setCell _ _ _).trans (KeepsOthers.setCell _ _ _)).from _), rfl, HN.out, HO.out.1, HO.out.2, HB.out⟩
        · have d2 : W1.cell? ⟨w.heap.size + 1 + 1, 0, none⟩ = some (.int .i64 m) := cell_of_row _ _ _ _ _ _ hz.mb
          have dx0 : W1.cell? ⟨Bx, 0, none⟩ = some (.int .i64 x.1.1) := cell_of_row _ _ _ _ _ _ HCX1.out
          have dx1 : W1.cell? ⟨Bx, 1, none⟩ = some (.int .i64 x.1.2) := cell_of_row _ _ _ _ _ _ HCX1.out
          have hq0 : w.heap.size + 1 + 1 < W1.heap.size := lt_of_block hz.mb
          have hq1 : Bx < W1.heap.size := lt_of_block HCX1.out
          clear hz
          gi_wp2_with fail
          refine ⟨trivial, (CallsIn.inRound l (callsIn_wide.2 (within_one x.1.1 x.1.2 m _ _ ?_))).mono ?_⟩
          · simp
          rintro e W2 ⟨rfl, P2⟩
          have Q2 := ((Only.refl (fun _ => False) W1).alloc (.cells #[.int .i64 m] 2)).trans P2
          have HK2 := Lib.hid (And.intro (KeepsFrom.of_grownBy (B := W0.heap.size) (pure_grown Q2) (fun j e => by cases e)) (Stays.pure (B := w2.heap.size + 1) (b := b) Q2))
          have HI2 := Lib.hid (HI1.out.pure Q2)
          have hr2 := Q2.heap HRM1.out (fun f => f)
          have HR2 := Lib.hid hr2
          clear P2 Q2 d2 dx0 dx1
          cases hwi : withinB x.1.1 x.1.2 [m] with
          | false =>
            have HN := Lib.hid (show roomTo h k m (vals (pre ++ [x])) = some rm from by rw [HSN1.out, if_neg (by omega), hwi]; rfl)
            clear hwi hr2
            gi_wp2
            exact ⟨HK.out.1.trans HK2.out.1, HK.out.2.trans HK2.out.2, HI2.out.congr (by rw [HN.out, HRM.out])⟩
          | true =>
            have dr : W2.cell? ⟨w2.heap.size, 0, none⟩ = some (.int .i64 rm) := cell_of_row _ _ _ _ _ _ hr2
            have fr : ∀ j, W2.frozen? ⟨w2.heap.size, j, none⟩ = false := fun j => arr_frozen hr2 j
            have HN := Lib.hid (show roomTo h k m (vals (pre ++ [x])) = some (min rm v) from by rw [HSN1.out, if_neg (by omega), hwi]; rfl)
            clear hwi hr2
            by_cases hmn : v < rm
            · have HF := Lib.hid (HI2.out.store (pre' := pre ++ [x]) hsz4 (by omega) hb0 hbw v (by rw [HN.out]; congr 1; omega))
              gi_wp2
              exact ⟨(HK.out.1.trans HK2.out.1).trans ((KeepsOthers.setCell _ _ _).from _), (HK.out.2.trans HK2.out.2).trans (Stays.set (by omega) (by omega)), HF.out⟩
            · have HF := Lib.hid (HI2.out.store (pre' := pre ++ [x]) hsz4 (by omega) hb0 hbw rm (by rw [HN.out]; congr 1; omega))
              gi_wp2
              exact ⟨(HK.out.1.trans HK2.out.1).trans ((KeepsOthers.setCell _ _ _).from _), (HK.out.2.trans HK2.out.2).trans (Stays.set (by omega) (by omega)), HF.out⟩
      case done =>
        rintro D' ys W hD hS hI hK
        obtain ⟨rm, hrm, hRm⟩ := hI.room
        have hR : R = (rm, 0) := by rw [HD3.out, ← hS, hrm]
        have d10 : W.cell? ⟨w2.heap.size, 0, none⟩ = some (.int .i64 rm) := cell_of_row _ _ _ _ _ _ hRm
        have c3 : W.cell? ⟨w.heap.size + 1 + 1 + 1, 0, none⟩ = some (.int .i64 0) := cell_of_row _ _ _ _ _ _ hI.r0
        have c4 : W.cell? ⟨w.heap.size + 1 + 1 + 1 + 1, 0, none⟩ = some (.int .i64 0) := cell_of_row _ _ _ _ _ _ hI.r1
        have f3 : ∀ j, W.frozen? ⟨w.heap.size + 1 + 1 + 1, j, none⟩ = false := fun j => arr_frozen hI.r0 j
        have f4 : ∀ j, W.frozen? ⟨w.heap.size + 1 + 1 + 1 + 1, j, none⟩ = false := fun j => arr_frozen hI.r1 j
        have HO := Lib.hid (res32_store hI.r0 hI.r1 rm 0)
        have hBb := (hI.below.setCell (p := ⟨w.heap.size + 3, 0, none⟩) (by simp) (.int .i64 rm)).setCell (p := ⟨w.heap.size + 4, 0, none⟩) (by simp) (.int .i64 0)
        have HB := Lib.hid hBb
        have HKp := Lib.hid (((KeepsOthers.setCell W ⟨w.heap.size + 3, 0, none⟩ (.int .i64 rm)).trans (KeepsOthers.setCell _ ⟨w.heap.size + 4, 0, none⟩ (.int .i64 0))).same D' _ hK rfl)
        have HR := Lib.hid hR
        clear hI hrm hRm hS hR hK hBb hIc
        gi_wp2
        refine ⟨by simp, .inl ⟨_, _, rfl, run_takeDeferred HKp.out, ?_⟩⟩
        refine ⟨_, results32 _ _ _ _ _ _ ((World.putObj_heap_other (by omega)).trans HO.out.1) ((World.putObj_heap_other (by omega)).trans HO.out.2) rfl rfl, by rw [HR.out], pure_of_below ?_⟩
        exact HB.out.grown (grownBy_putObj' _ D' _) HB.out.size (fun k e => by cases e; omega)
      case stop =>
        rintro D' c pre W hD hS ⟨rfl, hn, h3, h4, hB⟩ hK
        have HR := Lib.hid (show R = (0, 23) from by rw [HD3.out, roomTo_none hS hn])
        have HB := Lib.hid hB; have HS3 := Lib.hid h3; have HS4 := Lib.hid h4; have HK := Lib.hid hK
        clear hS hn h3 h4 hB hK hIc
        gi_wp2
        refine ⟨by simp, .inl ⟨_, _, rfl, run_takeDeferred HK.out, ?_⟩⟩
        refine ⟨_, results32 _ _ _ _ _ _ ((World.putObj_heap_other (by omega)).trans HS3.out) ((World.putObj_heap_other (by omega)).trans HS4.out) rfl rfl, by rw [HR.out], pure_of_below ?_⟩
        exact HB.out.grown (grownBy_putObj' _ D' _) HB.out.size (fun k e => by cases e; omega)
end Go.Proofs.Ytbiffhekbnmffaa
