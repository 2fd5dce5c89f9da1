/-
  The least of the totals.
-/
import Derived.Test.YtngkmfddamaegaaPc
namespace Go.Proofs.Ytngkmfddamaegaa
open Go.RowKit Go.Shelf
attribute [local go_sem] Oper.semAt_some

theorem totals_any (b : Nat) (w : World) :
    Calls Try.prog 73 #[.pointer (some ⟨b, 0, none⟩)] w fun e w' => e = .returned (.func (.func 80) #[] #[.pointer (some ⟨w.heap.size, 0, none⟩)]) ∧ w' = w.alloc (.cells #[.pointer (some ⟨b, 0, none⟩)] 75) := by
  go_enter Try.func73, Try.ntmps73
  go_wp2
  go_ret
  exact ⟨rfl, rfl⟩

def leastStep (f : Tot → Int) (s : Tot × Bool × Int) (x : Tot) : Tot × Bool × Int := if !s.2.1 || decide (f x < s.2.2) then (x, true, f x) else s
def leastTo (f : Tot → Int) (l : List Tot) : Tot × Bool × Int := l.foldl (leastStep f) ((0, 0, 0), false, 0)
theorem leastTo_snoc (f : Tot → Int) (l : List Tot) (x : Tot) : leastTo f (l ++ [x]) = leastStep f (leastTo f l) x := by simp [leastTo, List.foldl_append]

/-- The boxes of least, between two rounds. -/
def Leasting (w : World) (wv : Value) (f : Tot → Int) (pre : List Tot) (W : World) : Prop :=
  (W.heap[w.heap.size]? = some (.cells #[wv] 105 (0, 0)) ∧
    W.heap[w.heap.size + 1]? = some (.cells #[.int .i64 0, .int .i64 0, .int .i64 0] 79 (0, 0)) ∧
    W.heap[w.heap.size + 2]? = some (.cells #[.int .i64 (leastTo f pre).1.1, .int .i64 (leastTo f pre).1.2.1, .int .i64 (leastTo f pre).1.2.2] 79 (0, 0)) ∧
    W.heap[w.heap.size + 3]? = some (.cells #[.bool (leastTo f pre).2.1] 4 (0, 0)) ∧
    W.heap[w.heap.size + 4]? = some (.cells #[.int .i64 (leastTo f pre).2.2] 2 (0, 0))) ∧ Below w.heap.size w W

theorem leasting_own (w : World) (wv : Value) (f : Tot → Int) (B : Nat) (hB : w.heap.size ≤ B) : OwnFrom B (Leasting w wv f) := by
  refine OwnFrom.and (Own.from (fun s X Y row hs hg hr => ?_) _) (ownFrom_below (Nat.le_refl _) hB)
  have key : ∀ {k : Nat} {cs : Array Value} {t : TypeId}, X.heap[k]? = some (.cells cs t (0, 0)) → Y.heap[k]? = some (.cells cs t (0, 0)) := fun {k cs t} h =>
    (hg.block k (lt_of_block h) (fun e => by obtain ⟨o, ho, hc⟩ := hr k e.symm; rw [h] at ho; cases ho; cases hc)).trans h
  exact ⟨key hs.1, key hs.2.1, key hs.2.2.1, key hs.2.2.2.1, key hs.2.2.2.2⟩

theorem at_world {F : Fence} {n : Nat} {P : Program} {c : Code} {Q : Exit → Act → World → Prop} {a : Act} {w : World} (R : World → Prop) (h : R w) (k : ∀ W, R W → c.wpIn F n P Q a W) : c.wpIn F n P Q a w := k w h

theorem leasting_start (w : World) (wv : Value) (f : Tot → Int) : Leasting w wv f [] (((((w.alloc (.cells #[wv] 105)).alloc (.cells #[.int .i64 0, .int .i64 0, .int .i64 0] 79)).alloc (.cells #[.int .i64 0, .int .i64 0, .int .i64 0] 79)).alloc (.cells #[.bool false] 4)).alloc (.cells #[.int .i64 0] 2)) := by
  have k0 := World.alloc_heap_new w (.cells #[wv] 105)
  have k1 := World.alloc_heap_new (w.alloc (.cells #[wv] 105)) (.cells #[.int .i64 0, .int .i64 0, .int .i64 0] 79)
  have k2 := World.alloc_heap_new ((w.alloc (.cells #[wv] 105)).alloc (.cells #[.int .i64 0, .int .i64 0, .int .i64 0] 79)) (.cells #[.int .i64 0, .int .i64 0, .int .i64 0] 79)
  have k3 := World.alloc_heap_new (((w.alloc (.cells #[wv] 105)).alloc (.cells #[.int .i64 0, .int .i64 0, .int .i64 0] 79)).alloc (.cells #[.int .i64 0, .int .i64 0, .int .i64 0] 79)) (.cells #[.bool false] 4)
  have k4 := World.alloc_heap_new ((((w.alloc (.cells #[wv] 105)).alloc (.cells #[.int .i64 0, .int .i64 0, .int .i64 0] 79)).alloc (.cells #[.int .i64 0, .int .i64 0, .int .i64 0] 79)).alloc (.cells #[.bool false] 4)) (.cells #[.int .i64 0] 2)
  simp only [World.size_alloc] at k1 k2 k3 k4
  have up : ∀ {W : World} {k : Nat} {o o' : Obj}, W.heap[k]? = some o → (W.alloc o').heap[k]? = some o := fun h => (Below.heap_alloc _ _ _ (lt_of_block h)).trans h
  exact ⟨⟨up (up (up (up k0))), up (up (up k1)), up (up k2), up k3, k4⟩, ((((((Below.refl _ w).alloc (Nat.le_refl _) _).alloc (by simp) _).alloc (by simp; omega) _).alloc (by simp; omega) _).alloc (by simp; omega) _)⟩

theorem pure_of_below {w w' : World} (h : Below w.heap.size w w') : Pure w w' := (Only.below h).mono (fun k hk hb => by omega)
theorem below_of_pure {B : Nat} {w w' : World} (h : Pure w w') (hB : B ≤ w.heap.size) : Below B w w' := h.toBelow hB (fun _ _ f => f)

theorem leasting_keep {w W W1 : World} {wv : Value} {f : Tot → Int} {pre : List Tot} (h : Leasting w wv f pre W) (hP : Pure W W1) (B : Nat) {ps : List Tot} (e : leastTo f ps = leastTo f pre) :
    KeepsFrom B W W1 ∧ True ∧ Leasting w wv f ps W1 := by
  refine ⟨KeepsFrom.of_grownBy (pure_grown hP) (fun j e => by cases e), trivial, ?_⟩
  unfold Leasting
  rw [e]
  exact ⟨⟨hP.heap h.1.1 (fun f => f), hP.heap h.1.2.1 (fun f => f), hP.heap h.1.2.2.1 (fun f => f), hP.heap h.1.2.2.2.1 (fun f => f), hP.heap h.1.2.2.2.2 (fun f => f)⟩, h.2.trans (below_of_pure hP h.2.size)⟩

theorem leasting_store {w W W1 : World} {wv : Value} {f : Tot → Int} {pre : List Tot} (h : Leasting w wv f pre W) (hP : Pure W W1) (x : Tot) (lw : Int) (B : Nat) {ps : List Tot} (e : leastTo f ps = (x, true, lw)) :
    KeepsFrom B W (((((W1.setCell ⟨w.heap.size + 2, 0, none⟩ (.int .i64 x.1)).setCell ⟨w.heap.size + 2, 1, none⟩ (.int .i64 x.2.1)).setCell ⟨w.heap.size + 2, 2, none⟩ (.int .i64 x.2.2)).setCell ⟨w.heap.size + 3, 0, none⟩ (.bool true)).setCell ⟨w.heap.size + 4, 0, none⟩ (.int .i64 lw)) ∧ True ∧
    Leasting w wv f ps (((((W1.setCell ⟨w.heap.size + 2, 0, none⟩ (.int .i64 x.1)).setCell ⟨w.heap.size + 2, 1, none⟩ (.int .i64 x.2.1)).setCell ⟨w.heap.size + 2, 2, none⟩ (.int .i64 x.2.2)).setCell ⟨w.heap.size + 3, 0, none⟩ (.bool true)).setCell ⟨w.heap.size + 4, 0, none⟩ (.int .i64 lw)) := by
  obtain ⟨k1, _, ⟨c0, c1, c2, c3, c4⟩, hB⟩ := leasting_keep h hP B (ps := pre) rfl
  refine ⟨k1.trans (((((((KeepsOthers.setCell _ _ _).trans (KeepsOthers.setCell _ _ _)).trans (KeepsOthers.setCell _ _ _)).trans (KeepsOthers.setCell _ _ _)).trans (KeepsOthers.setCell _ _ _))).from B), trivial, ?_⟩
  have other : ∀ {W : World} {k b i : Nat} {o : Obj} {v : Value}, W.heap[k]? = some o → k ≠ b → (W.setCell ⟨b, i, none⟩ v).heap[k]? = some o := fun {W k b i o v} h hne => (Below.heap_setCell W ⟨b, i, none⟩ v k hne).trans h
  have s1 := heap_setCell_same _ _ 0 _ _ (.int .i64 x.1) c2
  have s2 := heap_setCell_same _ _ 1 _ _ (.int .i64 x.2.1) s1
  have s3 := heap_setCell_same _ _ 2 _ _ (.int .i64 x.2.2) s2
  have s4 := heap_setCell_same _ _ 0 _ _ (.bool true) (other (other (other c3 (b := w.heap.size + 2) (i := 0) (v := .int .i64 x.1) (by omega)) (b := w.heap.size + 2) (i := 1) (v := .int .i64 x.2.1) (by omega)) (b := w.heap.size + 2) (i := 2) (v := .int .i64 x.2.2) (by omega))
  have s5 := heap_setCell_same _ _ 0 _ _ (.int .i64 lw) (other (other (other (other c4 (b := w.heap.size + 2) (i := 0) (v := .int .i64 x.1) (by omega)) (b := w.heap.size + 2) (i := 1) (v := .int .i64 x.2.1) (by omega)) (b := w.heap.size + 2) (i := 2) (v := .int .i64 x.2.2) (by omega)) (b := w.heap.size + 3) (i := 0) (v := .bool true) (by omega))
  unfold Leasting
  rw [e]
  refine ⟨⟨?_, ?_, other (other s3 (by omega)) (by omega), other s4 (by omega), s5⟩, ?_⟩
  · exact other (other (other (other (other c0 (by omega)) (by omega)) (by omega)) (by omega)) (by omega)
  · exact other (other (other (other (other c1 (by omega)) (by omega)) (by omega)) (by omega)) (by omega)
  · exact ((((hB.setCell (p := ⟨w.heap.size + 2, 0, none⟩) (by simp) _).setCell (p := ⟨w.heap.size + 2, 1, none⟩) (by simp) _).setCell (p := ⟨w.heap.size + 2, 2, none⟩) (by simp) _).setCell (p := ⟨w.heap.size + 3, 0, none⟩) (by simp) _).setCell (p := ⟨w.heap.size + 4, 0, none⟩) (by simp) _

theorem result_store {w W : World} {D : Nat} (c1 : W.heap[w.heap.size + 1]? = some (.cells #[.int .i64 0, .int .i64 0, .int .i64 0] 79 (0, 0))) (hB : Below w.heap.size w W) (x : Tot)
    (hK : W.heap[D]? = some (.deferred (some []))) (hD : w.heap.size + 2 ≤ D) :
    ((((W.setCell ⟨w.heap.size + 1, 0, none⟩ (.int .i64 x.1)).setCell ⟨w.heap.size + 1, 1, none⟩ (.int .i64 x.2.1)).setCell ⟨w.heap.size + 1, 2, none⟩ (.int .i64 x.2.2)).putObj D (.deferred none)).cell? ⟨w.heap.size + 1, 0, none⟩ = some (.int .i64 x.1) ∧
    ((((W.setCell ⟨w.heap.size + 1, 0, none⟩ (.int .i64 x.1)).setCell ⟨w.heap.size + 1, 1, none⟩ (.int .i64 x.2.1)).setCell ⟨w.heap.size + 1, 2, none⟩ (.int .i64 x.2.2)).putObj D (.deferred none)).cell? ⟨w.heap.size + 1, 1, none⟩ = some (.int .i64 x.2.1) ∧
    ((((W.setCell ⟨w.heap.size + 1, 0, none⟩ (.int .i64 x.1)).setCell ⟨w.heap.size + 1, 1, none⟩ (.int .i64 x.2.1)).setCell ⟨w.heap.size + 1, 2, none⟩ (.int .i64 x.2.2)).putObj D (.deferred none)).cell? ⟨w.heap.size + 1, 2, none⟩ = some (.int .i64 x.2.2) ∧
    Pure w ((((W.setCell ⟨w.heap.size + 1, 0, none⟩ (.int .i64 x.1)).setCell ⟨w.heap.size + 1, 1, none⟩ (.int .i64 x.2.1)).setCell ⟨w.heap.size + 1, 2, none⟩ (.int .i64 x.2.2)).putObj D (.deferred none)) := by
  have s1 := heap_setCell_same _ _ 0 _ _ (.int .i64 x.1) c1
  have s2 := heap_setCell_same _ _ 1 _ _ (.int .i64 x.2.1) s1
  have s3 := heap_setCell_same _ _ 2 _ _ (.int .i64 x.2.2) s2
  have s4 := (World.putObj_heap_other (o := .deferred none) (show w.heap.size + 1 ≠ D by omega)).trans s3
  refine ⟨cell_of_row _ _ _ _ _ _ s4, cell_of_row _ _ _ _ _ _ s4, cell_of_row _ _ _ _ _ _ s4, pure_of_below ?_⟩
  have hB3 := ((hB.setCell (p := ⟨w.heap.size + 1, 0, none⟩) (by simp) (.int .i64 x.1)).setCell (p := ⟨w.heap.size + 1, 1, none⟩) (by simp) (.int .i64 x.2.1)).setCell (p := ⟨w.heap.size + 1, 2, none⟩) (by simp) (.int .i64 x.2.2)
  exact hB3.grown (grownBy_putObj' _ D _) hB3.size (fun k e => by cases e; omega)

set_option maxHeartbeats 1000000 in
set_option maxRecDepth 100000 in
theorem least_any (gf gw : Nat) (lb : Array Value) (a b : Value) (L : List Tot) (f : Tot → Int) (w : World)
    (hgf : ∀ args w, (callFunc gf args).run Try.prog w = .ok (.enter gf args) w) (hgw : ∀ args w, (callFunc gw args).run Try.prog w = .ok (.enter gw args) w)
    (hseq : ∀ W, Below w.heap.size w W → SeqStopsK Fence.wide 9 Try.prog gf lb (fun t => #[totV t]) (fun _ _ => True) (fun l => l = L) (fun l => l <+: L) L.length W)
    (hw : ∀ W x, Below w.heap.size w W → Calls Try.prog gw #[totV x, a, b] W fun e W' => e = .returned (.int .i64 (f x)) ∧ Pure W W') :
    Calls Try.prog 72 #[.func (.func gf) #[] lb, .func (.func gw) #[] #[a, b]] w fun e w' => e = .returned (totV (leastTo f L).1) ∧ Pure w w' := by
  refine (callsIn_wide (n := 10)).1 ?_
  refine callsIn_of_wp_marks Try.func72 rfl trivial ?_ rfl
  simp only [Try.ntmps72, List.size_toArray, List.length_cons, List.length_nil, Nat.reduceAdd, Nat.reduceSub, Array.replicate_succ, Array.replicate_zero, List.push_toArray, List.append_toArray, List.nil_append, List.cons_append]
  have HS := Lib.hid hseq; have HW := Lib.hid hw; clear hseq hw
  gi_wp2
  refine at_world (fun W => Leasting w (.func (.func gw) #[] #[a, b]) f [] W ∧ W.heap.size = w.heap.size + 5) ⟨leasting_start _ _ _, by simp⟩ ?_
  rintro W0 ⟨hI0, hs0⟩
  refine wpIn_rangeFunc_ownH (F := Fence.wide) (n := 10) rfl (by decide) (gf := gf) (lb := lb) rfl trivial hgf (HS.out W0 hI0.2) (fun _ _ => trivial) (fun _ _ _ _ _ _ _ _ => trivial) (Below.refl _ _) (fun _ => rfl)
    (Leasting w (.func (.func gw) #[] #[a, b]) f) (fun _ _ _ => False) (leasting_own _ _ _ _ (by omega)) (fun _ _ _ _ _ hs _ _ => hs) hI0
    (fun x a' W => ∃ Bx, w.heap.size + 4 < Bx ∧ W.heap[Bx]? = some (.cells #[.int .i64 x.1, .int .i64 x.2.1, .int .i64 x.2.2] 79 (0, 0)) ∧ a' = { tmps := #[.func (.func gf) #[] lb, .func (.func gw) #[] #[a, b], undef, .pointer (some ⟨w.heap.size, 0, none⟩), .pointer (some ⟨w.heap.size + 1, 0, none⟩), .pointer (some ⟨w.heap.size + 2, 0, none⟩), .pointer (some ⟨w.heap.size + 3, 0, none⟩), .pointer (some ⟨w.heap.size + 4, 0, none⟩), .pointer (some ⟨Bx, 0, none⟩), undef, .func (.func gf) #[] lb, totV x, undef, undef, undef, undef, undef, undef, undef, undef, undef, undef, undef, undef, undef], defers := [] })
    ?hAx ?assign ?body ?done ?stop
  case hAx =>
    intro x a' s X Y row ⟨Bx, hBx, hc, ha⟩ hg hr
    exact ⟨Bx, hBx, (hg.block Bx (lt_of_block hc) (fun e => by obtain ⟨_, o, ho, hc'⟩ := hr Bx e.symm; rw [hc] at ho; cases ho; cases hc')).trans hc, ha⟩
  case assign =>
    intro l pre x W K hi hK
    have hlt := lt_of_block hi.1.2.2.2.2
    unfold totV
    gi_wp2
    exact hK _ _ ((KeepsOthers.alloc _ _).from _) trivial ((leasting_own w _ f W0.heap.size (by omega)).alloc _ hi) ⟨W.heap.size, hlt, World.alloc_heap_new W _, rfl⟩
  case body =>
    rintro l pre x a' W hl ⟨r, hr⟩ ⟨⟨c0, c1, c2, c3, c4⟩, hB⟩ ⟨Bx, hBx, cx, rfl⟩ hlt
    have d0 : W.cell? ⟨w.heap.size, 0, none⟩ = _ := cell_of_row _ _ _ _ _ _ c0
    have dx0 : W.cell? ⟨Bx, 0, none⟩ = _ := cell_of_row _ _ _ _ _ _ cx
    have dx1 : W.cell? ⟨Bx, 1, none⟩ = _ := cell_of_row _ _ _ _ _ _ cx
    have dx2 : W.cell? ⟨Bx, 2, none⟩ = _ := cell_of_row _ _ _ _ _ _ cx
    simp at d0 dx0 dx1 dx2
    have hq := HW.out W x hB
    unfold totV at hq
    gi_wp2
    refine ⟨trivial, (CallsIn.inRound l (callsIn_wide.2 hq)).mono ?_⟩
    rintro e W1 ⟨rfl, hP⟩
    obtain ⟨s, hs⟩ : ∃ s, leastTo f pre = s := ⟨_, rfl⟩
    rw [hs] at c2 c3 c4
    have HL := Lib.hid (leasting_store (wv := .func (.func gw) #[] #[a, b]) (f := f) (ps := pre ++ [x]) ⟨⟨c0, c1, by rw [hs]; exact c2, by rw [hs]; exact c3, by rw [hs]; exact c4⟩, hB⟩ hP x (f x) W0.heap.size)
    have HK := Lib.hid (leasting_keep (wv := .func (.func gw) #[] #[a, b]) (f := f) (ps := pre ++ [x]) ⟨⟨c0, c1, by rw [hs]; exact c2, by rw [hs]; exact c3, by rw [hs]; exact c4⟩, hB⟩ hP W0.heap.size)
    have hst := leastTo_snoc f pre x
    rw [hs] at hst
    have HS2 := Lib.hid hst; clear hst
    have Hs := Lib.hid hs
    obtain ⟨⟨o0, o1, o2⟩, fd, lw⟩ := s
    have b2 := hP.heap c2 (fun f => f)
    have b3 := hP.heap c3 (fun f => f)
    have b4 := hP.heap c4 (fun f => f)
    have bx := hP.heap cx (fun f => f)
    have dx0 : W1.cell? ⟨Bx, 0, none⟩ = some (.int .i64 x.1) := cell_of_row _ _ _ _ _ _ bx
    have dx1 : W1.cell? ⟨Bx, 1, none⟩ = some (.int .i64 x.2.1) := cell_of_row _ _ _ _ _ _ bx
    have dx2 : W1.cell? ⟨Bx, 2, none⟩ = some (.int .i64 x.2.2) := cell_of_row _ _ _ _ _ _ bx
    have d20 : W1.cell? ⟨w.heap.size + 2, 0, none⟩ = some (.int .i64 o0) := cell_of_row _ _ _ _ _ _ b2
    have d21 : W1.cell? ⟨w.heap.size + 2, 1, none⟩ = some (.int .i64 o1) := cell_of_row _ _ _ _ _ _ b2
    have d22 : W1.cell? ⟨w.heap.size + 2, 2, none⟩ = some (.int .i64 o2) := cell_of_row _ _ _ _ _ _ b2
    have d3 : W1.cell? ⟨w.heap.size + 3, 0, none⟩ = some (.bool fd) := cell_of_row _ _ _ _ _ _ b3
    have d4 : W1.cell? ⟨w.heap.size + 4, 0, none⟩ = some (.int .i64 lw) := cell_of_row _ _ _ _ _ _ b4
    have fr2 : ∀ j, W1.frozen? ⟨w.heap.size + 2, j, none⟩ = false := fun j => by simp [World.frozen?, b2]
    have fr3 : ∀ j, W1.frozen? ⟨w.heap.size + 3, j, none⟩ = false := fun j => by simp [World.frozen?, b3]
    have fr4 : ∀ j, W1.frozen? ⟨w.heap.size + 4, j, none⟩ = false := fun j => by simp [World.frozen?, b4]
    clear c0 c1 c2 c3 c4 cx b2 b3 b4 bx hq d0 hs hP hB
    cases fd with
    | false =>
      gi_wp2
      exact HL.out (by rw [HS2.out]; simp [leastStep])
    | true =>
      by_cases hx : f x < lw
      · gi_wp2
        exact HL.out (by rw [HS2.out]; simp [leastStep, hx])
      · gi_wp2
        exact HK.out (by rw [HS2.out, Hs.out]; unfold leastStep; rw [if_neg (by simp; omega)])
  case done =>
    rintro D ys W hD rfl ⟨⟨c0, c1, c2, c3, c4⟩, hB⟩ hK
    have d0 : W.cell? ⟨w.heap.size + 1 + 1, 0, none⟩ = some (.int .i64 (leastTo f ys).1.1) := cell_of_row _ _ _ _ _ _ c2
    have d1 : W.cell? ⟨w.heap.size + 1 + 1, 1, none⟩ = some (.int .i64 (leastTo f ys).1.2.1) := cell_of_row _ _ _ _ _ _ c2
    have d2 : W.cell? ⟨w.heap.size + 1 + 1, 2, none⟩ = some (.int .i64 (leastTo f ys).1.2.2) := cell_of_row _ _ _ _ _ _ c2
    have k0 : W.cell? ⟨w.heap.size + 1, 0, none⟩ = some (.int .i64 0) := cell_of_row _ _ _ _ _ _ c1
    have k1 : W.cell? ⟨w.heap.size + 1, 1, none⟩ = some (.int .i64 0) := cell_of_row _ _ _ _ _ _ c1
    have k2 : W.cell? ⟨w.heap.size + 1, 2, none⟩ = some (.int .i64 0) := cell_of_row _ _ _ _ _ _ c1
    have fr : ∀ j, W.frozen? ⟨w.heap.size + 1, j, none⟩ = false := fun j => by simp [World.frozen?, c1]
    have hKp := Lib.hid ((((KeepsOthers.setCell W ⟨w.heap.size + 1, 0, none⟩ (.int .i64 (leastTo f ys).1.1)).trans (KeepsOthers.setCell _ ⟨w.heap.size + 1, 1, none⟩ (.int .i64 (leastTo f ys).1.2.1))).trans (KeepsOthers.setCell _ ⟨w.heap.size + 1, 2, none⟩ (.int .i64 (leastTo f ys).1.2.2))).same D _ hK rfl)
    have hX := Lib.hid (result_store c1 hB (leastTo f ys).1 hK (by omega))
    clear c0 c1 c2 c3 c4 
    gi_wp2
    refine ⟨by simp, .inl ⟨_, _, rfl, run_takeDeferred hKp.out, ?_⟩⟩
    obtain ⟨e0, e1, e2, hPP⟩ := hX.out
    refine ⟨totV (leastTo f ys).1, ?_, rfl, hPP⟩
    simp [results, Try.f72, go_sem, e0, e1, e2, totV]
  case stop =>
    rintro D c pre W _ _ h _
    exact h.elim
end Go.Proofs.Ytngkmfddamaegaa
