/-
  Crowd.
-/
import Derived.Test.YtbiffhekbnmffaaCs
namespace Go.Proofs.Ytbiffhekbnmffaa
open Go.RowKit Go.Shelf
attribute [local go_sem] Oper.semAt_some

theorem crowdTo_snoc (l : List Person) (ss : List (Int × Int)) (x : Int × Int) : crowdTo l (ss ++ [x]) = crowdStep l (crowdTo l ss) x := by simp [crowdTo, List.foldl_append]

/-- The boxes of Crowd, between two rounds; B is the first block behind the check. -/
structure Crowding (w : World) (B b M : Nat) (pv : Value) (l : List Person) (pre : List VSpan) (W : World) : Prop where
  res : W.heap[w.heap.size + 1]? = some (.cells #[.int .i64 0, .int .i64 0] 46 (0, 0))
  ptr : W.heap[B]? = some (.cells #[.pointer (some ⟨b, 0, none⟩)] 68 (0, 0))
  best : W.heap[B + 1]? = some (.cells #[.int .i64 (crowdTo l (vals pre)).1.1, .int .i64 (crowdTo l (vals pre)).1.2] 86 (0, 0))
  top : W.heap[B + 2]? = some (.cells #[.int .i64 (crowdTo l (vals pre)).2] 3 (0, 0))
  seq : W.heap[B + 3]? = some (.cells #[.pointer (some ⟨b, 0, none⟩)] 68 (0, 0))
  floor : W.heap[b]? = some (.cells #[.int .i64 M, pv] 98 (0, 0))
  below : Below w.heap.size w W
  people : People (fun k => k < w.heap.size) W pv l
theorem crowding_own {w : World} {B b M : Nat} {pv : Value} {l : List Person} (C : Nat) (hC : w.heap.size ≤ C) : OwnFrom C (Crowding w B b M pv l) := fun s X Y row hs hg hr => by
  have key : ∀ {k : Nat} {cs : Array Value} {t : TypeId}, X.heap[k]? = some (.cells cs t (0, 0)) → Y.heap[k]? = some (.cells cs t (0, 0)) := fun {k cs t} h =>
    (hg.block k (lt_of_block h) (fun e => by obtain ⟨_, o, ho, hc⟩ := hr k e.symm; rw [h] at ho; cases ho; cases hc)).trans h
  exact ⟨key hs.res, key hs.ptr, key hs.best, key hs.top, key hs.seq, key hs.floor, hs.below.grown hg hs.below.size (fun k e => Nat.le_trans hC (hr k e).1), hs.people.keep ((Only.refl (fun k => row = some k) X).grown hg (fun k e => .inl e)) (fun k hk e => by have := (hr k e).1; omega)⟩
theorem Crowding.pure {w W W' : World} {B b M : Nat} {pv : Value} {l : List Person} {pre : List VSpan} (h : Crowding w B b M pv l pre W) (hp : Pure W W') : Crowding w B b M pv l pre W' :=
  ⟨hp.heap h.res (fun f => f), hp.heap h.ptr (fun f => f), hp.heap h.best (fun f => f), hp.heap h.top (fun f => f), hp.heap h.seq (fun f => f), hp.heap h.floor (fun f => f), h.below.trans (below_of_pure hp h.below.size), h.people.pure hp⟩
theorem Crowding.congr {w W : World} {B b M : Nat} {pv : Value} {l : List Person} {pre pre' : List VSpan} (h : Crowding w B b M pv l pre W) (e : crowdTo l (vals pre') = crowdTo l (vals pre)) : Crowding w B b M pv l pre' W :=
  ⟨h.res, h.ptr, by rw [e]; exact h.best, by rw [e]; exact h.top, h.seq, h.floor, h.below, h.people⟩
theorem Crowding.store {w W : World} {B b M : Nat} {pv : Value} {l : List Person} {pre pre' : List VSpan} (h : Crowding w B b M pv l pre W) (hB : w.heap.size + 1 < B) (hb : b < B) (hbw : w.heap.size ≤ b) (x : Int × Int) (n : Int) (e : crowdTo l (vals pre') = (x, n)) :
    Crowding w B b M pv l pre' (((W.setCell ⟨B + 1, 0, none⟩ (.int .i64 x.1)).setCell ⟨B + 1, 1, none⟩ (.int .i64 x.2)).setCell ⟨B + 2, 0, none⟩ (.int .i64 n)) := by
  have other : ∀ {W : World} {k g i : Nat} {o : Obj} {v : Value}, W.heap[k]? = some o → k ≠ g → (W.setCell ⟨g, i, none⟩ v).heap[k]? = some o := fun {W k g i o v} h hne => (Below.heap_setCell W ⟨g, i, none⟩ v k hne).trans h
  have s1 := heap_setCell_same _ _ 0 _ _ (.int .i64 x.1) h.best
  have s2 := heap_setCell_same _ _ 1 _ _ (.int .i64 x.2) s1
  have s3 := heap_setCell_same _ _ 0 _ _ (.int .i64 n) (other (other h.top (g := B + 1) (i := 0) (v := .int .i64 x.1) (by omega)) (g := B + 1) (i := 1) (v := .int .i64 x.2) (by omega))
  refine ⟨other (other (other h.res (by omega)) (by omega)) (by omega), other (other (other h.ptr (by omega)) (by omega)) (by omega), ?_, ?_, other (other (other h.seq (by omega)) (by omega)) (by omega), other (other (other h.floor (by omega)) (by omega)) (by omega), ?_, ?_⟩
  · rw [e]; exact other s2 (by omega)
  · rw [e]; exact s3
  · exact ((h.below.setCell (p := ⟨B + 1, 0, none⟩) (by simp; omega) _).setCell (p := ⟨B + 1, 1, none⟩) (by simp; omega) _).setCell (p := ⟨B + 2, 0, none⟩) (by simp; omega) _
  · have hO : Only (fun k => k = B + 1 ∨ k = B + 2) W (((W.setCell ⟨B + 1, 0, none⟩ (.int .i64 x.1)).setCell ⟨B + 1, 1, none⟩ (.int .i64 x.2)).setCell ⟨B + 2, 0, none⟩ (.int .i64 n)) :=
      (((Only.refl (fun k => k = B + 1 ∨ k = B + 2) W).setCell (p := ⟨B + 1, 0, none⟩) (.inl (.inl rfl)) _).setCell (p := ⟨B + 1, 1, none⟩) (.inl (.inl rfl)) _).setCell (p := ⟨B + 2, 0, none⟩) (.inl (.inr rfl)) _
    exact h.people.keep hO (fun k hk e => by rcases e with e | e <;> omega)

theorem results24 (W : World) (tmps : Array Value) (g : Nat) (x y s : Int) (hg : W.heap[g]? = some (.cells #[.int .i64 x, .int .i64 y] 46 (0, 0))) (h2 : tmps[2]?.getD undef = .pointer (some ⟨g, 0, none⟩)) (h3 : tmps[3]?.getD undef = .int .i64 s) :
    (results Try.f24 tmps).run Try.prog W = .ok (.tuple #[.agg #[.int .i64 x, .int .i64 y], .int .i64 s]) W := by
  have E0 : W.cell? ⟨g, 0, none⟩ = some (.int .i64 x) := cell_of_row _ _ _ _ _ _ hg
  have E1 : W.cell? ⟨g, 1, none⟩ = some (.int .i64 y) := cell_of_row _ _ _ _ _ _ hg
  simp only [results, Try.f24] at *
  simp [go_sem, h2, h3, E0, E1]
theorem Stays.set {B b g i : Nat} {W : World} {v : Value} (h1 : B ≠ g) (h2 : b ≠ g) : Stays B b W (W.setCell ⟨g, i, none⟩ v) := fun k hk cs t h => by
  refine (Below.heap_setCell W ⟨g, i, none⟩ v k ?_).trans h
  rcases hk with rfl | rfl
  · exact h1
  · exact h2
theorem res_store {W : World} {g : Nat} {x0 y0 : Value} (h : W.heap[g]? = some (.cells #[x0, y0] 46 (0, 0))) (x y : Int) :
    ((W.setCell ⟨g, 0, none⟩ (.int .i64 x)).setCell ⟨g, 1, none⟩ (.int .i64 y)).heap[g]? = some (.cells #[.int .i64 x, .int .i64 y] 46 (0, 0)) := by
  have s1 := heap_setCell_same W _ 0 _ _ (.int .i64 x) h
  exact heap_setCell_same _ _ 1 _ _ (.int .i64 y) s1

set_option maxHeartbeats 8000000 in
set_option maxRecDepth 100000 in
theorem Crowd_any (D : Nat → Prop) (pv : Value) (h : Hall) (w : World) (hv : People D w pv h.people) :
    Calls Try.prog 24 #[.agg #[.int .i64 h.minutes, pv]] w fun e w' => e = .returned (.tuple #[.agg #[.int .i64 (crowdR h).1, .int .i64 (crowdR h).2.1], .int .i64 (crowdR h).2.2]) ∧ Pure w w' := by
  replace hv : People (fun k => k < w.heap.size) w pv h.people := by
    obtain ⟨a, n, c, rfl, h1, h2, h3, h4⟩ := hv
    exact ⟨a, n, c, rfl, h1, h2, h3, fun i hi => by obtain ⟨b, o, e, d, r0, r⟩ := h4 i hi; exact ⟨b, o, e, World.block_lt_of_cell? w _ r0, r0, r⟩⟩
  have hB0 := box2_start w h.minutes pv
  have hC := open_any _ pv h _ (hv.pure hB0.2.2)
  have hS := @valid_of h
  have hdef : crowdR h = if checkHall h ≠ 0 then (0, 0, checkHall h) else if (crowdTo h.people (spansOf h.minutes.toNat)).1 = (0, 0) then (0, 0, 16) else ((crowdTo h.people (spansOf h.minutes.toNat)).1.1, (crowdTo h.people (spansOf h.minutes.toNat)).1.2, 0) := rfl
  obtain ⟨a, len, cap, rfl⟩ : ∃ a n c, pv = .slice a n c := by obtain ⟨a, n, c, hv, _⟩ := hv; exact ⟨a, n, c, hv⟩
  obtain ⟨s, hs⟩ : ∃ s, checkHall h = s := ⟨_, rfl⟩
  rw [hs] at hC hS hdef
  obtain ⟨R, hRR⟩ : ∃ R, crowdR h = R := ⟨_, rfl⟩
  rw [hRR] at hdef ⊢
  have HD := Lib.hid hdef; have HS := Lib.hid hS; have HB0 := Lib.hid hB0; have HV := Lib.hid hv
  clear hs hRR hdef hS hB0 hv
  refine (callsIn_wide (n := 10)).1 ?_
  refine callsIn_of_wp_marks Try.func24 rfl trivial ?_ rfl
  simp only [Try.ntmps24, List.size_toArray, List.length_cons, List.length_nil, Nat.reduceAdd, Nat.reduceSub, Array.replicate_succ, Array.replicate_zero, List.push_toArray, List.append_toArray, List.nil_append, List.cons_append]
  gi_wp2_with fail
  refine ⟨trivial, (callsIn_wide.2 hC).mono ?_⟩
  rintro e w1 (⟨h0, rfl, P1⟩ | ⟨rfl, b, rfl, hb, hF, P1⟩)
  · have hB1 := (box2_pure HB0.out P1)
    have k0 : w1.cell? ⟨w.heap.size + 1, 0, none⟩ = some (.int .i64 0) := cell_of_row _ _ _ _ _ _ hB1.2.1
    have k1 : w1.cell? ⟨w.heap.size + 1, 1, none⟩ = some (.int .i64 0) := cell_of_row _ _ _ _ _ _ hB1.2.1
    have f1 := fun j => arr_frozen hB1.2.1 j
    have HO := Lib.hid (box2_out hB1 0 0)
    have HR := Lib.hid (show R = (0, 0, s) from by rw [HD.out, if_pos h0])
    have hsz := (lt_of_block hB1.2.1)
    have HST := Lib.hid ((Below.heap_alloc _ (.cells #[.pointer none] 68) _ (lt_of_block (res_store hB1.2.1 0 0))).trans (res_store hB1.2.1 0 0))
    clear hC P1 hB1
    gi_wp2
    obtain ⟨E0, E1, P⟩ := HO.out
    exact ⟨.tuple #[.agg #[.int .i64 0, .int .i64 0], .int .i64 s], results24 _ _ _ _ _ _ HST.out rfl rfl, by rw [HR.out], P.alloc _⟩
  · have hB1 := box2_pure HB0.out P1
    have hsz := (lt_of_block hB1.2.1)
    obtain ⟨v1, v60, v30, _⟩ := HS.out rfl
    obtain ⟨M, hM⟩ : ∃ M : Nat, h.minutes = M := ⟨h.minutes.toNat, by omega⟩
    obtain ⟨pv, hfb, hpe⟩ := hF
    have hb0 := lt_of_block hfb
    rw [hM] at hfb
    have hD2 := HD.out
    rw [if_neg (by simp), hM, Int.toNat_natCast] at hD2
    have HD2 := Lib.hid hD2; have HM := Lib.hid hM
    have hbw : w.heap.size ≤ b := by simp at hb; omega
    have HW1 := Lib.hid (And.intro hB1 (And.intro hfb hpe))
    have hM60 : M ≤ 60 := by omega
    clear hC P1 hB1 hD2 hfb hM hb hpe
    gi_wp2_with fail
    refine ⟨trivial, (callsIn_wide.2 (spans_any b _)).mono ?_⟩
    rintro e w2 ⟨rfl, rfl⟩
    gi_wp2_with fail
    refine at_world (fun W => Crowding w w1.heap.size b M pv h.people [] W ∧ W.heap.size = w1.heap.size + 4) ⟨?_, by simp⟩ ?_
    · obtain ⟨hB1, hfb, hpe⟩ := HW1.out
      have k0 := World.alloc_heap_new w1 (.cells #[.pointer (some ⟨b, 0, none⟩)] 68)
      have k1 := World.alloc_heap_new (w1.alloc (.cells #[.pointer (some ⟨b, 0, none⟩)] 68)) (.cells #[.int .i64 0, .int .i64 0] 86)
      have k2 := World.alloc_heap_new ((w1.alloc (.cells #[.pointer (some ⟨b, 0, none⟩)] 68)).alloc (.cells #[.int .i64 0, .int .i64 0] 86)) (.cells #[.int .i64 0] 3)
      have k3 := World.alloc_heap_new (((w1.alloc (.cells #[.pointer (some ⟨b, 0, none⟩)] 68)).alloc (.cells #[.int .i64 0, .int .i64 0] 86)).alloc (.cells #[.int .i64 0] 3)) (.cells #[.pointer (some ⟨b, 0, none⟩)] 68)
      simp only [World.size_alloc] at k1 k2 k3
      have up : ∀ {W : World} {k : Nat} {o o' : Obj}, W.heap[k]? = some o → (W.alloc o').heap[k]? = some o := fun h => (Below.heap_alloc _ _ _ (lt_of_block h)).trans h
      exact ⟨up (up (up (up hB1.2.1))), up (up (up k0)), up (up k1), up k2, k3, up (up (up (up hfb))), below_of_pure (((((hB1.2.2).alloc _).alloc _).alloc _).alloc _) (Nat.le_refl _), hpe.pure (((((Only.refl _ _).alloc _).alloc _).alloc _).alloc _)⟩
    rintro W0 ⟨hI0, hs0⟩
    have hIc := Lib.hid hI0
    refine wpIn_rangeFunc_ownH (F := Fence.wide) (n := 10) rfl (by decide) (gf := 68) (lb := #[.pointer (some ⟨w1.heap.size + 3, 0, none⟩)]) rfl trivial (enters_of Try.func68 (by kernel_rfl) rfl) (spans1_stops 9 (w1.heap.size + 3) b M pv W0 (by decide) hM60 hIc.out.seq hIc.out.floor) (fun h k => h.trans k) (fun W l o o' _ h hc _ => Stays.obj W l o o' h hc) (Below.refl _ _) (fun _ => rfl)
      (Crowding w w1.heap.size b M pv h.people) (fun _ _ _ => False) (crowding_own _ (by omega)) (fun _ _ _ _ _ hs _ _ => hs) hI0
      (fun x a' W => ∃ Bx, w1.heap.size + 3 < Bx ∧ W.heap[Bx]? = some (.cells #[.int .i64 x.1.1, .int .i64 x.1.2] 86 (0, 0)) ∧ a' = { tmps := #[.agg #[.int .i64 h.minutes, .slice a len cap], .pointer (some ⟨w.heap.size, 0, none⟩), .pointer (some ⟨w.heap.size + 1, 0, none⟩), .int .i64 0, .pointer (some ⟨w1.heap.size, 0, none⟩), .int .i64 0, .pointer (some ⟨w1.heap.size + 1, 0, none⟩), .pointer (some ⟨w1.heap.size + 1 + 1, 0, none⟩), .pointer (some ⟨Bx, 0, none⟩), undef, .tuple #[.pointer (some ⟨b, 0, none⟩), .int .i64 0], .agg #[.int .i64 h.minutes, .slice a len cap], .tuple #[.pointer (some ⟨b, 0, none⟩), .int .i64 0], .pointer (some ⟨b, 0, none⟩), .int .i64 0, .int .i64 0, .bool false, undef, undef, .agg #[.int .i64 0, .int .i64 0], .pointer (some ⟨b, 0, none⟩), .func (.func 68) #[] #[.pointer (some ⟨w1.heap.size + 1 + 1 + 1, 0, none⟩)], .agg #[.int .i64 x.1.1, .int .i64 x.1.2], undef, undef, undef, undef, undef, undef, undef, undef, undef, undef, undef, undef, undef, undef, undef, undef, undef], defers := [] })
      ?hAx ?assign ?body ?done ?stop
    case hAx =>
      intro x a' s X Y row ⟨Bx, hBx, hc, ha⟩ hg hr
      exact ⟨Bx, hBx, (hg.block Bx (lt_of_block hc) (fun e => by obtain ⟨_, o, ho, hc'⟩ := hr Bx e.symm; rw [hc] at ho; cases ho; cases hc')).trans hc, ha⟩
    case assign =>
      intro l pre x W K hi hK
      have hlt : w1.heap.size + 3 < W.heap.size := lt_of_block hi.seq
      gi_wp2
      exact hK _ _ ((KeepsOthers.alloc _ _).from _) (Stays.pure ((Only.refl _ _).alloc _)) ((crowding_own W0.heap.size (by omega)).alloc _ hi) ⟨W.heap.size, hlt, World.alloc_heap_new W _, rfl⟩
    case body =>
      rintro l pre x a' W hl ⟨r, hr⟩ hI ⟨Bx, hBx, cx, rfl⟩ hlt
      obtain ⟨⟨bt, tp⟩, hct⟩ : ∃ q, crowdTo h.people (vals pre) = q := ⟨_, rfl⟩
      have hq := bound_any (fun k => k < w.heap.size) b h x.1 W ⟨pv, by rw [HM.out]; exact hI.floor, hI.people⟩ v30 (by have := x.2; omega) (by have := x.2; omega) (by have := x.2; omega)
      have hbst := hI.best
      have htop := hI.top
      rw [hct] at hbst htop
      have hsn : crowdTo h.people (vals (pre ++ [x])) = if tp < boundOf h.people x.1 then (x.1, boundOf h.people x.1) else (bt, tp) := by
        rw [vals, List.map_append]
        show crowdTo h.people (vals pre ++ [x.1]) = _
        rw [crowdTo_snoc, hct]; rfl
      obtain ⟨n, hn⟩ : ∃ n, boundOf h.people x.1 = n := ⟨_, rfl⟩
      rw [hn] at hq hsn
      have d4 : W.cell? ⟨w1.heap.size, 0, none⟩ = some (.pointer (some ⟨b, 0, none⟩)) := cell_of_row _ _ _ _ _ _ hI.ptr
      have dx0 : W.cell? ⟨Bx, 0, none⟩ = some (.int .i64 x.1.1) := cell_of_row _ _ _ _ _ _ cx
      have dx1 : W.cell? ⟨Bx, 1, none⟩ = some (.int .i64 x.1.2) := cell_of_row _ _ _ _ _ _ cx
      have HI := Lib.hid hI; have HCT := Lib.hid hct; have HSN := Lib.hid hsn; have HBST := Lib.hid hbst; have HTOP := Lib.hid htop; have HCX := Lib.hid cx
      clear hI hct hsn hn hbst htop cx hr
      gi_wp2
      refine ⟨trivial, (CallsIn.inRound l (callsIn_wide.2 hq)).mono ?_⟩
      rintro e W1 ⟨rfl, hP⟩
      have HI1 := Lib.hid (HI.out.pure hP)
      have b6 := hP.heap HBST.out (fun f => f)
      have b7 := hP.heap HTOP.out (fun f => f)
      have bx := hP.heap HCX.out (fun f => f)
      have d60 : W1.cell? ⟨w1.heap.size + 1, 0, none⟩ = some (.int .i64 bt.1) := cell_of_row _ _ _ _ _ _ b6
      have d61 : W1.cell? ⟨w1.heap.size + 1, 1, none⟩ = some (.int .i64 bt.2) := cell_of_row _ _ _ _ _ _ b6
      have d7 : W1.cell? ⟨w1.heap.size + 1 + 1, 0, none⟩ = some (.int .i64 tp) := cell_of_row _ _ _ _ _ _ b7
      have f6 : ∀ j, W1.frozen? ⟨w1.heap.size + 1, j, none⟩ = false := fun j => arr_frozen b6 j
      have f7 : ∀ j, W1.frozen? ⟨w1.heap.size + 1 + 1, j, none⟩ = false := fun j => arr_frozen b7 j
      have e0 : W1.cell? ⟨Bx, 0, none⟩ = some (.int .i64 x.1.1) := cell_of_row _ _ _ _ _ _ bx
      have e1 : W1.cell? ⟨Bx, 1, none⟩ = some (.int .i64 x.1.2) := cell_of_row _ _ _ _ _ _ bx
      have HK := Lib.hid (And.intro (KeepsFrom.of_grownBy (B := W0.heap.size) (pure_grown hP) (fun j e => by cases e)) (Stays.pure (B := w1.heap.size + 3) (b := b) hP))
      clear hq d4 dx0 dx1 b6 b7 bx hP
      by_cases hlt2 : tp < n
      · have HF := Lib.hid (HI1.out.store (pre' := pre ++ [x]) hsz hb0 hbw x.1 n (by rw [HSN.out, if_pos hlt2]))
        gi_wp2
        exact ⟨HK.out.1.trans ((((KeepsOthers.setCell _ _ _).trans (KeepsOthers.setCell _ _ _)).trans (KeepsOthers.setCell _ _ _)).from _), HK.out.2.trans (((Stays.set (by omega) (by omega)).trans (Stays.set (by omega) (by omega))).trans (Stays.set (by omega) (by omega))), HF.out⟩
      · have HF := Lib.hid (HI1.out.congr (pre' := pre ++ [x]) (by rw [HSN.out, if_neg hlt2, HCT.out]))
        gi_wp2
        exact ⟨HK.out.1, HK.out.2, HF.out⟩
    case done =>
      rintro D' ys W hD hS hI hK
      have hfin := hI
      obtain ⟨⟨bt, tp⟩, hct⟩ : ∃ q, crowdTo h.people (vals ys) = q := ⟨_, rfl⟩
      have hbst := hI.best
      rw [hct] at hbst
      have hR : R = if bt = (0, 0) then (0, 0, 16) else (bt.1, bt.2, 0) := by rw [HD2.out, ← hS, hct]
      have d60 : W.cell? ⟨w1.heap.size + 1, 0, none⟩ = some (.int .i64 bt.1) := cell_of_row _ _ _ _ _ _ hbst
      have d61 : W.cell? ⟨w1.heap.size + 1, 1, none⟩ = some (.int .i64 bt.2) := cell_of_row _ _ _ _ _ _ hbst
      have k0 : W.cell? ⟨w.heap.size + 1, 0, none⟩ = some (.int .i64 0) := cell_of_row _ _ _ _ _ _ hI.res
      have k1 : W.cell? ⟨w.heap.size + 1, 1, none⟩ = some (.int .i64 0) := cell_of_row _ _ _ _ _ _ hI.res
      have f1 : ∀ j, W.frozen? ⟨w.heap.size + 1, j, none⟩ = false := fun j => arr_frozen hI.res j
      obtain ⟨b1, b2⟩ := bt
      have hKp := fun (x y : Int) => ((KeepsOthers.setCell W ⟨w.heap.size + 1, 0, none⟩ (.int .i64 x)).trans (KeepsOthers.setCell _ ⟨w.heap.size + 1, 1, none⟩ (.int .i64 y))).same D' _ hK rfl
      have hfinal : ∀ x y : Int, ((((W.setCell ⟨w.heap.size + 1, 0, none⟩ (.int .i64 x)).setCell ⟨w.heap.size + 1, 1, none⟩ (.int .i64 y)).putObj D' (.deferred none))).heap[w.heap.size + 1]? = some (.cells #[.int .i64 x, .int .i64 y] 46 (0, 0)) ∧ Pure w (((W.setCell ⟨w.heap.size + 1, 0, none⟩ (.int .i64 x)).setCell ⟨w.heap.size + 1, 1, none⟩ (.int .i64 y)).putObj D' (.deferred none)) := fun x y => by
        refine ⟨(World.putObj_heap_other (by omega)).trans (res_store hfin.res x y), pure_of_below ?_⟩
        exact ((hfin.below.setCell (p := ⟨w.heap.size + 1, 0, none⟩) (by simp) _).setCell (p := ⟨w.heap.size + 1, 1, none⟩) (by simp) _).grown (grownBy_putObj' _ D' _) ((hfin.below.setCell (p := ⟨w.heap.size + 1, 0, none⟩) (by simp) (.int .i64 x)).setCell (p := ⟨w.heap.size + 1, 1, none⟩) (by simp) (.int .i64 y)).size (fun k e => by cases e; omega)
      have HKp := Lib.hid hKp; have HFIN := Lib.hid hfinal
      clear hI hfin hct hbst hKp hfinal hS hK hIc
      by_cases hz : b1 = 0 ∧ b2 = 0
      · obtain ⟨rfl, rfl⟩ := hz
        have HR := Lib.hid (show R = (0, 0, 16) from by rw [hR, if_pos rfl])
        clear hR
        gi_wp2
        refine ⟨by simp, .inl ⟨_, _, rfl, run_takeDeferred (HKp.out 0 0), ?_⟩⟩
        exact ⟨_, results24 _ _ _ _ _ _ (HFIN.out 0 0).1 rfl rfl, by rw [HR.out], (HFIN.out 0 0).2⟩
      · have HR := Lib.hid (show R = (b1, b2, 0) from by rw [hR, if_neg (fun e => hz (by simp only [Prod.mk.injEq] at e; exact e))])
        clear hR
        by_cases hz1 : b1 = 0
        · have hz2 : (b2 == 0) = false := by simpa using fun e => hz ⟨hz1, e⟩
          subst hz1
          gi_wp2
          refine ⟨by simp, .inl ⟨_, _, rfl, run_takeDeferred (HKp.out 0 b2), ?_⟩⟩
          exact ⟨_, results24 _ _ _ _ _ _ (HFIN.out 0 b2).1 rfl rfl, by rw [HR.out], (HFIN.out 0 b2).2⟩
        · have hz2 : (b1 == 0) = false := by simpa using hz1
          gi_wp2
          refine ⟨by simp, .inl ⟨_, _, rfl, run_takeDeferred (HKp.out b1 b2), ?_⟩⟩
          exact ⟨_, results24 _ _ _ _ _ _ (HFIN.out b1 b2).1 rfl rfl, by rw [HR.out], (HFIN.out b1 b2).2⟩
    case stop =>
      rintro D' c pre W _ _ h _
      exact h.elim
end Go.Proofs.Ytbiffhekbnmffaa
