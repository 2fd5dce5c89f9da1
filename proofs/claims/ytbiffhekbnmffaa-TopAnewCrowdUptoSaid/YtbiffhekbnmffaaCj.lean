/-
  The slice that collects what an iterator gives.
-/
import Derived.Test.YtbiffhekbnmffaaCi
namespace Go.Proofs.Ytbiffhekbnmffaa
open Go.RowKit Go.Shelf
attribute [local go_sem] Oper.semAt_some

theorem cells_new (W : World) (cs : Array Value) (t : TypeId) : ∀ j u, cs.toList[j]? = some u → (W.alloc (.cells cs t)).cell? ((⟨W.heap.size, 0, none⟩ : Addr).add j) = some u := fun j u h => by
  rw [show (⟨W.heap.size, 0, none⟩ : Addr).add j = ⟨W.heap.size, j, none⟩ from by simp [Addr.add]; intro e; exact e.symm]
  exact new_cell W cs t _ j u rfl (by rw [← Array.getElem?_toList]; exact h)

/-- The box of AppendSeq, between two rounds. -/
def Seqing (w : World) (pre : List Slip) (W : World) : Prop :=
  ∃ v, W.heap[w.heap.size]? = some (.cells #[v] 103 (0, 0)) ∧ W.ownsRow w.heap.size 101 2 v pre.length (pre.flatMap pairC) ∧ Below w.heap.size w W
theorem owns_not_row {W : World} {base : Nat} {e : TypeId} {s n : Nat} {v : Value} {xs : List Value} (h : W.ownsRow base e s v n xs) {k : Nat} {o : Obj} (hk : W.heap[k]? = some o) (hno : ∀ cur, o ≠ .cells cur e (0, 0)) : v.ownBlock ≠ some k := fun e' => by
  rcases h.2 with ⟨rfl, _⟩ | ⟨g, cap, cur, rfl, _, hg, _⟩
  · simp [Value.ownBlock] at e'
  · have : g = k := by simpa [Value.ownBlock] using e'
    subst this; rw [hg] at hk; cases hk; exact hno cur rfl
theorem owns_grown {W W' : World} {base : Nat} {e : TypeId} {s n : Nat} {v : Value} {xs : List Value} {row : Option Nat} (h : W.ownsRow base e s v n xs) (hg : W.grownBy W' row) (hr : ∀ k, v.ownBlock = some k → row ≠ some k) : W'.ownsRow base e s v n xs := by
  refine ⟨h.1, ?_⟩
  rcases h.2 with hn | ⟨g, cap, cur, rfl, hb, hgb, rest⟩
  · exact .inl hn
  · exact .inr ⟨g, cap, cur, rfl, hb, (hg.block g (lt_of_block hgb) (fun e => hr g rfl e.symm)).trans hgb, rest⟩
theorem seqing_own (w : World) (B : Nat) (hB : w.heap.size ≤ B) : OwnFrom B (Seqing w) := fun s X Y row ⟨v, hb, ho, hw⟩ hg hr => by
  have hne : ∀ {k : Nat} {cs : Array Value} {t : TypeId}, X.heap[k]? = some (.cells cs t (0, 0)) → row ≠ some k := fun hk e => by
    obtain ⟨_, o, ho, hc⟩ := hr _ e; rw [hk] at ho; cases ho; cases hc
  refine ⟨v, (hg.block _ (lt_of_block hb) (fun e => hne hb e.symm)).trans hb, owns_grown ho hg (fun k hk e => ?_), hw.grown hg hw.size (fun k e => Nat.le_trans hB (hr k e).1)⟩
  obtain ⟨_, o, hoo, hc⟩ := hr k e
  exact owns_not_row ho hoo (fun cur e' => by subst e'; cases hc) hk
theorem seqing_start (w : World) : Seqing w [] (w.alloc (.cells #[.slice none 0 0] 103)) := ⟨_, World.alloc_heap_new w _, World.ownsRow_nil _ _ _ _, (Below.refl _ w).alloc (Nat.le_refl _) _⟩

theorem seqing_step {w W w3 : World} {pre : List Slip} {v v' : Value} {x : Slip} {o : Obj} (hb : W.heap[w.heap.size]? = some (.cells #[v] 103 (0, 0))) (ho : W.ownsRow w.heap.size 101 2 v pre.length (pre.flatMap pairC)) (hw : Below w.heap.size w W)
    (hown : w3.ownsRow w.heap.size 101 2 v' (pre.length + 1) (pre.flatMap pairC ++ [.int .i64 x.1, .int .i64 x.2])) (hg : (W.alloc o).grownBy w3 v.ownBlock) (B : Nat) :
    KeepsFrom B W (w3.setCell ⟨w.heap.size, 0, none⟩ v') ∧ KeepsWalks W (w3.setCell ⟨w.heap.size, 0, none⟩ v') ∧ Seqing w (pre ++ [x]) (w3.setCell ⟨w.heap.size, 0, none⟩ v') := by
  have hoa : (W.alloc o).ownsRow w.heap.size 101 2 v pre.length (pre.flatMap pairC) := World.ownsRow.alloc ho o
  have hrow : ∀ (j : Nat) (ob : Obj), v.ownBlock = some j → (W.alloc o).heap[j]? = some ob → ob.isCells = true := fun j ob hj hob => by
    cases hcc : ob.isCells with
    | true => rfl
    | false => exact absurd hj (owns_not_row hoa hob (fun cur e' => by subst e'; cases hcc))
  have hK : KeepsOthers W (w3.setCell ⟨w.heap.size, 0, none⟩ v') := ((KeepsOthers.alloc W o).trans (KeepsOthers.of_grownBy hg hrow)).trans (KeepsOthers.setCell _ _ _)
  have hba : (W.alloc o).heap[w.heap.size]? = some (.cells #[v] 103 (0, 0)) := (Below.heap_alloc _ _ _ (lt_of_block hb)).trans hb
  have hb3 : w3.heap[w.heap.size]? = some (.cells #[v] 103 (0, 0)) := (hg.block _ (lt_of_block hba) (fun e => owns_not_row hoa hba (fun cur e' => by cases e') e.symm)).trans hba
  have hw3 : Below w.heap.size w w3 := (hw.alloc hw.size o).grown hg (by have := hw.size; simp; omega) (fun k e => (owns_lt hoa k e).1)
  refine ⟨hK.from B, hK.walks, v', heap_setCell_same _ _ 0 _ _ v' hb3, ?_, hw3.setCell (by simp) _⟩
  have h3 : w3.ownsRow w.heap.size 101 2 v' (pre ++ [x]).length ((pre ++ [x]).flatMap pairC) := by
    rw [List.flatMap_append, List.length_append]; exact hown
  exact owns_keep h3 ((Only.refl (fun k => k = w.heap.size) w3).setCell (.inl rfl) _) (fun k hk e => by subst e; exact owns_not_row h3 hb3 (fun cur e' => by cases e') hk)

theorem at_world {F : Fence} {n : Nat} {P : Program} {c : Code} {Q : Exit → Act → World → Prop} {a : Act} {w : World} (R : World → Prop) (h : R w) (k : ∀ W, R W → c.wpIn F n P Q a W) : c.wpIn F n P Q a w := k w h
theorem info101 : (Try.prog.info? 101).map (fun i => (i.zero, i.size, i.bytes)) = some (some (.agg #[.int .i64 0, .int .i64 0]), 2, 16) := by kernel_rfl

set_option maxHeartbeats 2000000 in
set_option maxRecDepth 100000 in
theorem appendSeq_any (gf : Nat) (lb : Array Value) (N : Nat) (S : List Slip → Prop) (w : World) (hN : N ≤ 1048576) (hgf : ∀ args w, (callFunc gf args).run Try.prog w = .ok (.enter gf args) w)
    (hseq : ∀ W, Below w.heap.size w W → SeqStopsK Fence.wide 9 Try.prog gf lb (fun t => #[slipV t]) KeepsWalks S (fun _ => True) N W) :
    Calls Try.prog 77 #[.slice none 0 0, .func (.func gf) #[] lb] w fun e w' => ∃ v l, e = .returned v ∧ S l ∧ w'.ownsRow w.heap.size 101 2 v l.length (l.flatMap pairC) ∧ Pure w w' := by
  refine (callsIn_wide (n := 10)).1 ?_
  refine callsIn_of_wp_marks Try.func77 rfl trivial ?_ rfl
  simp only [Try.ntmps77, List.size_toArray, List.length_cons, List.length_nil, Nat.reduceAdd, Nat.reduceSub, Array.replicate_succ, Array.replicate_zero, List.push_toArray, List.append_toArray, List.nil_append, List.cons_append]
  have HS := Lib.hid hseq; clear hseq
  obtain ⟨i0, hi, hz0, hz1, hz2⟩ := info_parts info101
  gi_wp2
  refine at_world (fun W => Seqing w [] W ∧ W.heap.size = w.heap.size + 1) ⟨seqing_start w, by simp⟩ ?_
  rintro W0 ⟨hI0, hs0⟩
  have hB0 : Below w.heap.size w W0 := by obtain ⟨_, _, _, h⟩ := hI0; exact h
  refine wpIn_rangeFunc_ownH (F := Fence.wide) (n := 10) rfl (by decide) (gf := gf) (lb := lb) rfl trivial hgf (HS.out W0 hB0) (fun h k => h.trans k) (fun W l o o' _ h _ hw => KeepsWalks.putObj o' h hw) (Below.refl _ _) (fun _ => rfl)
    (Seqing w) (fun _ _ _ => False) (seqing_own w _ (by omega)) (fun _ _ _ _ _ hs _ _ => hs) hI0
    (fun x a' W => ∃ Bx, w.heap.size < Bx ∧ W.heap[Bx]? = some (.cells #[.int .i64 x.1, .int .i64 x.2] 101 (0, 0)) ∧ a' = { tmps := #[.slice none 0 0, .func (.func gf) #[] lb, .pointer (some ⟨w.heap.size, 0, none⟩), undef, .slice none 0 0, .pointer (some ⟨Bx, 0, none⟩), .func (.func gf) #[] lb, slipV x, undef, undef, undef, undef, undef], defers := [] })
    ?hAx ?assign ?body ?done ?stop
  case hAx =>
    intro x a' s X Y row ⟨Bx, hBx, hc, ha⟩ hg hr
    exact ⟨Bx, hBx, (hg.block Bx (lt_of_block hc) (fun e => by obtain ⟨_, o, ho, hc'⟩ := hr Bx e.symm; rw [hc] at ho; cases ho; cases hc')).trans hc, ha⟩
  case assign =>
    intro l pre x W K hi hK
    have hlt : w.heap.size < W.heap.size := by obtain ⟨_, h, _⟩ := hi; exact lt_of_block h
    unfold slipV
    gi_wp2
    exact hK _ _ ((KeepsOthers.alloc _ _).from _) (KeepsWalks.alloc _ _) ((seqing_own w W0.heap.size (by omega)).alloc _ hi) ⟨W.heap.size, hlt, World.alloc_heap_new W _, rfl⟩
  case body =>
    rintro l pre x a' W hl ⟨r, hr⟩ ⟨v, hb, ho, hw⟩ ⟨Bx, hBx, cx, rfl⟩ hlt
    have d0 : W.cell? ⟨w.heap.size, 0, none⟩ = some v := cell_of_row _ _ _ _ _ _ hb
    have f0 := fun j => arr_frozen hb j
    have dx0 : W.cell? ⟨Bx, 0, none⟩ = some (.int .i64 x.1) := cell_of_row _ _ _ _ _ _ cx
    have dx1 : W.cell? ⟨Bx, 1, none⟩ = some (.int .i64 x.2) := cell_of_row _ _ _ _ _ _ cx
    have hws := hw.size
    have HO := Lib.hid ho; have HB := Lib.hid hb; have HW := Lib.hid hw
    clear ho hb hw cx hr
    unfold slipV
    gi_wp2_with (gi_at_builtin; refine wpListIn_append_own _ rfl _ _ 103 rfl w.heap.size 101 i0 (.agg #[.int .i64 0, .int .i64 0]) 2 16 Try.underlying103 hi hz0 hz1 hz2 rfl (by decide) _ _ _ rfl (World.ownsRow.alloc HO.out _) ⟨W.heap.size, 0, none⟩ 1 1 [.int .i64 x.1, .int .i64 x.2] rfl rfl (cells_new W #[.int .i64 x.1, .int .i64 x.2] 101) ?c2 ?c3 ?c4 ?c5 ?_)
    case c2 => intro u hu; simp at hu; rcases hu with rfl | rfl <;> rfl
    case c3 => unfold maxLen; omega
    case c4 => omega
    case c5 => simp; omega
    intro v' w3 hown' hg3 _
    have HL := Lib.hid (seqing_step HB.out HO.out HW.out hown' hg3 W0.heap.size)
    have hba : (W.alloc (.cells #[.int .i64 x.1, .int .i64 x.2] 101)).heap[w.heap.size]? = some (.cells #[v] 103 (0, 0)) := (Below.heap_alloc _ _ _ (lt_of_block HB.out)).trans HB.out
    have hb3 : w3.heap[w.heap.size]? = some (.cells #[v] 103 (0, 0)) := (hg3.block _ (lt_of_block hba) (fun e => owns_not_row (World.ownsRow.alloc HO.out _) hba (fun cur e' => by cases e') e.symm)).trans hba
    obtain ⟨ao', ac', rfl, _⟩ := owns_form hown'
    have k0 : w3.cell? ⟨w.heap.size, 0, none⟩ = some v := cell_of_row _ _ _ _ _ _ hb3
    have g0 := fun j => arr_frozen hb3 j
    clear hown' hg3 hba hb3 d0 f0 dx0 dx1
    gi_wp2
    exact HL.out
  case done =>
    rintro D ys W hD hS ⟨v, hb, ho, hw⟩ hK
    have d0 : W.cell? ⟨w.heap.size, 0, none⟩ = some v := cell_of_row _ _ _ _ _ _ hb
    obtain ⟨ao', ac', rfl, _⟩ := owns_form ho
    have HO := Lib.hid ho; have HW := Lib.hid hw; have HK := Lib.hid hK; have HSS := Lib.hid hS
    clear ho hw hb hK hS
    gi_wp2
    refine ⟨by simp, .inl ⟨_, _, rfl, run_takeDeferred HK.out, ?_⟩⟩
    refine ⟨_, results_tmp rfl _ _ _, _, ys, rfl, HSS.out, owns_grown HO.out (grownBy_putObj' _ _ _) (fun k hk e => by cases e; exact owns_not_row HO.out HK.out (fun cur e' => by cases e') hk), pure_of_below (HW.out.grown (grownBy_putObj' _ _ _) HW.out.size (fun k e => by cases e; omega))⟩
  case stop =>
    rintro D c pre W _ _ h _
    exact h.elim
end Go.Proofs.Ytbiffhekbnmffaa
