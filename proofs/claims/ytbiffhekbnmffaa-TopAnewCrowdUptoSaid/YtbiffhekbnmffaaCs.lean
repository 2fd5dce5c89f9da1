/-
  All spans, one after another.
-/
import Derived.Test.YtbiffhekbnmffaaCr
import Derived.WalkMore
namespace Go.Proofs.Ytbiffhekbnmffaa
open Go.RowKit Go.Shelf
attribute [local go_sem] Oper.semAt_some

/-- Two blocks stay as they lie. -/
def Stays (B b : Nat) (W W' : World) : Prop := ∀ k, (k = B ∨ k = b) → ∀ cs t, W.heap[k]? = some (.cells cs t (0, 0)) → W'.heap[k]? = some (.cells cs t (0, 0))
theorem Stays.trans {B b : Nat} {X Y Z : World} (h : Stays B b X Y) (h2 : Stays B b Y Z) : Stays B b X Z := fun k hk cs t hX => h2 k hk cs t (h k hk cs t hX)
theorem Stays.obj {B b : Nat} (W : World) (l : Nat) (o o' : Obj) (h : W.heap[l]? = some o) (hc : o.isCells = false) : Stays B b W (W.putObj l o') := fun k _ cs t hk => by
  by_cases e : k = l
  · subst e; rw [hk] at h; cases h; cases hc
  · exact (World.putObj_heap_other e).trans hk
theorem Stays.pure {B b : Nat} {W W' : World} (h : Pure W W') : Stays B b W W' := fun k _ cs t hk => h.heap hk (fun f => f)

def spanRow (M a : Nat) : List (Int × Int) := (List.range (M - a)).map fun (d : Nat) => ((a : Int) + 1, (a : Int) + 1 + (d : Int))
def spansTo (M a d : Nat) : List (Int × Int) := (List.range a).flatMap (spanRow M) ++ (List.range d).map fun (d : Nat) => ((a : Int) + 1, (a : Int) + 1 + (d : Int))
theorem spansOf_eq (M : Nat) : spansOf M = (List.range M).flatMap (spanRow M) := rfl
theorem spansTo_zero (M a : Nat) : spansTo M a 0 = (List.range a).flatMap (spanRow M) := by unfold spansTo; simp
theorem spansTo_succ (M a d : Nat) : spansTo M a (d + 1) = spansTo M a d ++ [((a : Int) + 1, (a : Int) + 1 + (d : Int))] := by unfold spansTo; rw [List.range_succ, List.map_append, List.append_assoc]; rfl
theorem spansTo_row (M a : Nat) : spansTo M a (M - a) = (List.range (a + 1)).flatMap (spanRow M) := by
  unfold spansTo; rw [List.range_succ, List.flatMap_append]; simp [spanRow]
theorem range_prefix (a b : Nat) (h : a ≤ b) : List.range a <+: List.range b := by
  obtain ⟨d, rfl⟩ := Nat.exists_eq_add_of_le h
  rw [List.range_add]; exact ⟨_, rfl⟩
theorem prefix_flatMap {α β : Type} (f : α → List β) {l m : List α} (h : l <+: m) : l.flatMap f <+: m.flatMap f := by
  obtain ⟨r, rfl⟩ := h; rw [List.flatMap_append]; exact ⟨_, rfl⟩
theorem spansTo_prefix (M a d : Nat) (ha : a < M) (hd : d ≤ M - a) : spansTo M a d <+: spansOf M := by
  have h1 : spansTo M a d <+: spansTo M a (M - a) := by
    unfold spansTo
    rw [List.prefix_append_right_inj]
    exact (range_prefix d (M - a) hd).map _
  refine h1.trans ?_
  rw [spansTo_row, spansOf_eq]
  exact prefix_flatMap _ (range_prefix _ _ ha)

/-- A span of a hall. -/
abbrev VSpan := {s : Int × Int // 1 ≤ s.1 ∧ s.1 ≤ s.2 ∧ s.2 ≤ 60}
abbrev vals (l : List VSpan) : List (Int × Int) := l.map (·.1)

set_option maxHeartbeats 2000000 in
set_option maxRecDepth 100000 in
theorem spans1_stops (n B b M : Nat) (pv : Value) (w : World) (hn : 2 ≤ n) (hM : M ≤ 60) (hB : w.heap[B]? = some (.cells #[.pointer (some ⟨b, 0, none⟩)] 68 (0, 0))) (hb : w.heap[b]? = some (.cells #[.int .i64 M, pv] 98 (0, 0))) :
    SeqStopsK Fence.wide n Try.prog 68 #[.pointer (some ⟨B, 0, none⟩)] (fun t : VSpan => #[.agg #[.int .i64 t.1.1, .int .i64 t.1.2]]) (Stays B b) (fun l => vals l = spansOf M) (fun l => vals l <+: spansOf M) (spansOf M).length w := by
  intro l J Jx W hW hJ hJx hY h0
  have hB1 := (hW.block B (lt_of_block hB)).trans hB
  have hb1 := (hW.block b (lt_of_block hb)).trans hb
  clear hB hb
  refine callsIn_of_wp Try.func68 rfl trivial ?_ rfl
  simp only [Try.ntmps68, List.size_toArray, List.length_cons, List.length_nil, Nat.reduceAdd, Nat.reduceSub, Array.replicate_succ, Array.replicate_zero, List.push_toArray, List.append_toArray, List.nil_append, List.cons_append]
  have HJ := Lib.hid h0; have HB := Lib.hid hB1; have Hb := Lib.hid hb1; have HY := Lib.hid hY
  clear h0 hB1 hb1 hY
  gi_wp2
  refine wpIn_wide.2 ?_
  go_wp2_with fail
  go_step3
  go_wp2_with fail
  go_step3
  go_wp2_with fail
  refine (wpIn_wide (n := n)).1 ?_
  gi_loopw [3] (fun i wr => ∃ a : Nat, a ≤ M ∧ i = .int .i64 (a + 1) ∧ (∃ L, vals L = (List.range a).flatMap (spanRow M) ∧ J L wr) ∧ wr.heap[B]? = some (.cells #[.pointer (some ⟨b, 0, none⟩)] 68 (0, 0)) ∧ wr.heap[b]? = some (.cells #[.int .i64 M, pv] 98 (0, 0))) (fun i _ => M + 1 - (intOf i).toNat)
  case atStart => exact ⟨0, Nat.zero_le _, rfl, ⟨[], rfl, HJ.out⟩, HB.out, Hb.out⟩
  case round =>
    clear HJ HB Hb
    obtain ⟨a, ha, rfl, ⟨L, hL, hJs⟩, hB2, hb2⟩ := hrel
    have HL := Lib.hid hL; clear hL
    have k0 : wr.cell? ⟨B, 0, none⟩ = some (.pointer (some ⟨b, 0, none⟩)) := cell_of_row _ _ _ _ _ _ hB2
    have k1 : wr.cell? ⟨b, 0, none⟩ = some (.int .i64 M) := cell_of_row _ _ _ _ _ _ hb2
    by_cases hlt : a < M
    · have h26 : decide ((a : Int) + 1 ≤ (M : Int)) = true := by simp; omega
      have HJ := Lib.hid hJs; have HB := Lib.hid hB2; have Hb := Lib.hid hb2
      clear hJs hB2 hb2
      gi_wp2
      clear k0 k1 h26
      gi_loopw [4] (fun i w2 => ∃ d : Nat, d ≤ M - a ∧ i = .int .i64 (a + 1 + d) ∧ (∃ L, vals L = spansTo M a d ∧ J L w2) ∧ w2.heap[B]? = some (.cells #[.pointer (some ⟨b, 0, none⟩)] 68 (0, 0)) ∧ w2.heap[b]? = some (.cells #[.int .i64 M, pv] 98 (0, 0))) (fun i _ => M + 1 - (intOf i).toNat)
      case atStart => exact ⟨0, Nat.zero_le _, by simp, ⟨L, by rw [spansTo_zero]; exact HL.out, HJ.out⟩, HB.out, Hb.out⟩
      case round =>
        clear HJ HB Hb HL
        obtain ⟨d, hd, rfl, ⟨L, hL, hJs⟩, hB2, hb2⟩ := hrel
        have HL := Lib.hid hL; clear hL
        obtain ⟨w3, rfl⟩ : ∃ x : World, x = wr := ⟨_, rfl⟩
        have k0 : w3.cell? ⟨B, 0, none⟩ = some (.pointer (some ⟨b, 0, none⟩)) := cell_of_row _ _ _ _ _ _ hB2
        have k1 : w3.cell? ⟨b, 0, none⟩ = some (.int .i64 M) := cell_of_row _ _ _ _ _ _ hb2
        by_cases hlt2 : d < M - a
        · have hpre := spansTo_prefix M a (d + 1) hlt (by omega)
          rw [spansTo_succ] at hpre
          have hlen : L.length < (spansOf M).length := by
            have h1 := hpre.length_le
            rw [← HL.out] at h1; simp at h1; omega
          obtain ⟨fn, tmps, assign, body, hy, hR⟩ := HY.out _ ⟨((a : Int) + 1, (a : Int) + 1 + (d : Int)), by dsimp only; omega⟩ w3 hJs hlen
          have HB := Lib.hid hB2; have Hb := Lib.hid hb2; have HPRE := Lib.hid hpre
          clear hJs hB2 hb2 hpre hlen
          dsimp only at hy
          gi_wp2
          refine ⟨fun _ => by omega, hR.mono ?_⟩
          rintro e W3 (⟨rfl, hJ3, hk3⟩ | ⟨rfl, hJx3⟩)
          · have hB3 := hk3 B (.inl rfl) _ _ HB.out
            have hb3 := hk3 b (.inr rfl) _ _ Hb.out
            have hL3 : vals (L ++ [⟨((a : Int) + 1, (a : Int) + 1 + (d : Int)), by dsimp only; omega⟩]) = spansTo M a (d + 1) := by rw [spansTo_succ, ← HL.out]; simp
            have HL3 := Lib.hid hL3; clear hL3
            have HJ3 := Lib.hid hJ3; have HB3 := Lib.hid hB3; have Hb3 := Lib.hid hb3
            clear hJ3 hB3 hb3 hk3 hy k0 k1
            gi_wp2
            go_roundw
            case rel => exact ⟨d + 1, by omega, by go_num, ⟨_, HL3.out, HJ3.out⟩, HB3.out, Hb3.out⟩
            case measure => simp [intOf]; omega
          · have HJx := Lib.hid hJx3
            clear hJx3
            gi_wp2
            rw [Exit.noGoto_ret]
            refine bodyPost_ret (results_none rfl _ _ _) rfl ?_
            exact ⟨⟨_, rfl⟩, .inr ⟨_, by rw [vals, List.map_append]; rw [show L.map (·.1) = spansTo M a d from HL.out]; exact HPRE.out, HJx.out⟩⟩
        · obtain rfl : d = M - a := by omega
          have hL4 := HL.out
          rw [spansTo_row] at hL4
          have HL4 := Lib.hid hL4
          have HJ := Lib.hid hJs; have HB := Lib.hid hB2; have Hb := Lib.hid hb2
          clear hJs hB2 hb2 hL4
          gi_wp2
          go_roundw
          case rel => exact ⟨a + 1, by omega, by go_num, ⟨L, HL4.out, HJ.out⟩, HB.out, Hb.out⟩
          case measure => simp [intOf]; omega
    · obtain rfl : a = M := by omega
      have HJ := Lib.hid hJs
      clear hJs hB2 hb2
      gi_wp2
      rw [Exit.noGoto_normal]
      go_end0
      exact ⟨⟨_, rfl⟩, .inl ⟨L, by rw [spansOf_eq]; exact HL.out, HJ.out⟩⟩

theorem spans_any (b : Nat) (w : World) :
    Calls Try.prog 50 #[.pointer (some ⟨b, 0, none⟩)] w fun e w' => e = .returned (.func (.func 68) #[] #[.pointer (some ⟨w.heap.size, 0, none⟩)]) ∧ w' = w.alloc (.cells #[.pointer (some ⟨b, 0, none⟩)] 68) := by
  go_enter Try.func50, Try.ntmps50
  go_wp2
  go_ret
  exact ⟨rfl, rfl⟩
end Go.Proofs.Ytbiffhekbnmffaa
