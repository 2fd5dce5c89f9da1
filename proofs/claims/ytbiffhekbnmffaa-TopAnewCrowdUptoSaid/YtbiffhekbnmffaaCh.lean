/-
  The least slip of a list.
-/
import Derived.Test.YtbiffhekbnmffaaCg
namespace Go.Proofs.Ytbiffhekbnmffaa
open Go.RowKit

theorem cmpS_lt (a b : Int × Int) : cmpS a b < 0 ↔ a.1 < b.1 ∨ (a.1 = b.1 ∧ a.2 < b.2) := by
  unfold cmpS cmpI
  constructor
  · intro h
    split at h <;> split at h <;> (try split at h) <;> omega
  · intro h
    split <;> split <;> (try split) <;> omega
def minStep (m x : Int × Int) : Int × Int := if cmpS x m < 0 then x else m
def minTo (l : List (Int × Int)) (k : Nat) : Int × Int := (l.take k).tail.foldl minStep (l[0]?.getD (0, 0))
def minS (l : List (Int × Int)) : Int × Int := minTo l l.length
theorem minTo_succ (l : List (Int × Int)) (k : Nat) (h : k < l.length) (hk : 1 ≤ k) : minTo l (k + 1) = minStep (minTo l k) (l[k]?.getD (0, 0)) := by
  unfold minTo
  rw [List.take_add_one, List.getElem?_eq_getElem h]
  have : (l.take k ++ (some l[k]).toList).tail = (l.take k).tail ++ [l[k]] := by
    rw [List.tail_append_of_ne_nil (by intro e; have := congrArg List.length e; simp at this; rcases this with h' | h' <;> simp [h'] at h <;> omega)]; rfl
  rw [this, List.foldl_append]; rfl
theorem minStep_le (m x : Int × Int) : ¬ cmpS m (minStep m x) < 0 ∧ ¬ cmpS x (minStep m x) < 0 := by
  unfold minStep
  split
  · rename_i h; rw [cmpS_lt] at h; rw [cmpS_lt, cmpS_lt]; omega
  · rename_i h; rw [cmpS_lt] at h; rw [cmpS_lt, cmpS_lt]; omega
theorem foldl_min (r : List (Int × Int)) : ∀ m, (r.foldl minStep m = m ∨ r.foldl minStep m ∈ r) ∧ ¬ cmpS m (r.foldl minStep m) < 0 ∧ ∀ y ∈ r, ¬ cmpS y (r.foldl minStep m) < 0 := by
  induction r with
  | nil => intro m; exact ⟨.inl rfl, by rw [cmpS_lt]; simp, by simp⟩
  | cons x r ih =>
    intro m
    obtain ⟨h1, h2, h3⟩ := ih (minStep m x)
    have hs := minStep_le m x
    rw [List.foldl_cons]
    refine ⟨?_, ?_, ?_⟩
    · rcases h1 with h1 | h1
      · rw [h1]; unfold minStep; split
        · exact .inr List.mem_cons_self
        · exact .inl rfl
      · exact .inr (List.mem_cons_of_mem _ h1)
    · have := hs.1
      rw [cmpS_lt] at *; omega
    · intro y hy
      rcases List.mem_cons.1 hy with rfl | hy
      · have := hs.2
        rw [cmpS_lt] at *; omega
      · exact h3 y hy
theorem minS_spec (l : List (Int × Int)) (h : l ≠ []) : minS l ∈ l ∧ ∀ y ∈ l, ¬ cmpS y (minS l) < 0 := by
  cases l with
  | nil => exact absurd rfl h
  | cons a r =>
    have e : minS (a :: r) = r.foldl minStep a := by unfold minS minTo; rw [List.take_of_length_le (Nat.le_refl _)]; rfl
    obtain ⟨h1, h2, h3⟩ := foldl_min r a
    rw [e]
    refine ⟨?_, fun y hy => ?_⟩
    · rcases h1 with h1 | h1
      · rw [h1]; exact List.mem_cons_self
      · exact List.mem_cons_of_mem _ h1
    · rcases List.mem_cons.1 hy with rfl | hy
      · exact h2
      · exact h3 y hy

/-- The boxes of MinFunc, between two rounds. -/
def Mining (w : World) (m : Int × Int) (W : World) : Prop :=
  W.heap[w.heap.size]? = some (.cells #[.int .i64 0, .int .i64 0] 101 (0, 0)) ∧ W.heap[w.heap.size + 1]? = some (.cells #[.int .i64 m.1, .int .i64 m.2] 101 (0, 0)) ∧ Pure w W
theorem mining_start (w : World) (m : Int × Int) : Mining w m ((w.alloc (.cells #[.int .i64 0, .int .i64 0] 101)).alloc (.cells #[.int .i64 m.1, .int .i64 m.2] 101)) := by
  have h0 := World.alloc_heap_new w (.cells #[.int .i64 0, .int .i64 0] 101)
  have h1 := World.alloc_heap_new (w.alloc (.cells #[.int .i64 0, .int .i64 0] 101)) (.cells #[.int .i64 m.1, .int .i64 m.2] 101)
  rw [World.size_alloc] at h1
  exact ⟨(Below.heap_alloc _ _ _ (lt_of_block h0)).trans h0, h1, ((Only.refl _ w).alloc _).alloc _⟩
theorem mining_pure {w W W' : World} {m : Int × Int} (h : Mining w m W) (hp : Pure W W') : Mining w m W' := ⟨hp.heap h.1 (fun f => f), hp.heap h.2.1 (fun f => f), h.2.2.trans hp⟩
theorem mining_store {w W : World} {m : Int × Int} (h : Mining w m W) (x : Int × Int) : Mining w x ((W.setCell ⟨w.heap.size + 1, 0, none⟩ (.int .i64 x.1)).setCell ⟨w.heap.size + 1, 1, none⟩ (.int .i64 x.2)) := by
  have s1 := heap_setCell_same W _ 0 _ _ (.int .i64 x.1) h.2.1
  have s2 := heap_setCell_same _ _ 1 _ _ (.int .i64 x.2) s1
  refine ⟨?_, s2, h.2.2.trans' ((((Only.refl (fun i => i = w.heap.size + 1) W).setCell (.inl rfl) _)).setCell (.inl rfl) _) (fun i hi e => by omega)⟩
  exact ((Below.heap_setCell _ ⟨w.heap.size + 1, 1, none⟩ _ _ (by simp)).trans (Below.heap_setCell _ ⟨w.heap.size + 1, 0, none⟩ _ _ (by simp))).trans h.1

set_option maxHeartbeats 1000000 in
set_option maxRecDepth 100000 in
theorem minFunc_any (D : Nat → Prop) (v : Value) (l : List (Int × Int)) (w : World) (hv : Pairs D w v l) (h1 : 1 ≤ l.length) :
    Calls Try.prog 76 #[v, .func (.func 64) #[] #[]] w fun e w' => e = .returned (.agg #[.int .i64 (minS l).1, .int .i64 (minS l).2]) ∧ Pure w w' := by
  obtain ⟨m, hm2⟩ : ∃ m, minS l = m := ⟨_, rfl⟩
  rw [hm2]
  have HR := Lib.hid hm2; clear hm2
  obtain ⟨a, len, cap, rfl, hlen, _, hm, hc⟩ := hv
  obtain ⟨b, off, rfl, _, c0, c1⟩ := hc 0 (by omega)
  rw [Nat.zero_mul, Nat.add_zero] at c0 c1
  rw [← hlen] at h1
  have hst := mining_start w (l[0]?.getD (0, 0))
  have hm1 : minTo l 1 = l[0]?.getD (0, 0) := by unfold minTo; rw [show (l.take 1).tail = [] from by cases l <;> rfl]; rfl
  obtain ⟨⟨p1, p2⟩, hp⟩ : ∃ p, l[0]?.getD (0, 0) = p := ⟨_, rfl⟩
  rw [hp] at c0 c1 hst hm1
  have d0 := ((Only.refl (fun _ => False) w).alloc (.cells #[.int .i64 0, .int .i64 0] 101)).cell c0 (fun f => f)
  have d1 := ((Only.refl (fun _ => False) w).alloc (.cells #[.int .i64 0, .int .i64 0] 101)).cell c1 (fun f => f)
  have HST := Lib.hid (show Mining w (minTo l 1) _ from by rw [hm1]; exact hst)
  have HL := Lib.hid hlen; have HC := Lib.hid hc
  clear hlen hc c0 c1 hst hm1 hp
  go_enter Try.func76, Try.ntmps76
  go_wp2
  go_loopw [6] (fun i wr => ∃ k : Nat, 1 ≤ k ∧ k ≤ len ∧ i = .int .i64 k ∧ Hid (Mining w (minTo l k) wr)) (fun i _ => len - (intOf i).toNat)
  case atStart => exact ⟨1, Nat.le_refl _, h1, rfl, HST⟩
  case round =>
    obtain ⟨k, hk1, hk, rfl, hM⟩ := hrel
    have b1 := hM.out.2.1
    have e0 : wr.cell? ⟨w.heap.size + 1, 0, none⟩ = some (.int .i64 (minTo l k).1) := cell_of_row _ _ _ _ _ _ b1
    have e1 : wr.cell? ⟨w.heap.size + 1, 1, none⟩ = some (.int .i64 (minTo l k).2) := cell_of_row _ _ _ _ _ _ b1
    have b0 := hM.out.1
    have e2 : wr.cell? ⟨w.heap.size, 0, none⟩ = some (.int .i64 0) := cell_of_row _ _ _ _ _ _ b0
    have e3 : wr.cell? ⟨w.heap.size, 1, none⟩ = some (.int .i64 0) := cell_of_row _ _ _ _ _ _ b0
    have f1 := fun j => arr_frozen b1 j
    have f0 := fun j => arr_frozen b0 j
    by_cases hlt : k < len
    · obtain ⟨b', off', hb', _, c0, c1⟩ := HC.out k hlt
      cases hb'
      have k0 := hM.out.2.2.cell c0 (fun f => f)
      have k1 := hM.out.2.2.cell c1 (fun f => f)
      have hts := minTo_succ l k (by rw [← HL.out]; exact hlt) hk1
      obtain ⟨x, hx⟩ : ∃ x, l[k]?.getD (0, 0) = x := ⟨_, rfl⟩
      obtain ⟨y, hm2⟩ : ∃ m, minTo l k = m := ⟨_, rfl⟩
      rw [hx] at k0 k1 hts
      rw [hm2] at e0 e1 hts hM
      have HTS := Lib.hid hts
      clear hx c0 c1 hm2 hts b1 b0 e2 e3 f0
      obtain ⟨x1, x2⟩ := x
      obtain ⟨m1, m2⟩ := y
      have hcmp := fun W => slipcmp_any (x1, x2) (m1, m2) W
      have hcs := minStep_le (m1, m2) (x1, x2)
      have hmst : minStep (m1, m2) (x1, x2) = if cmpS (x1, x2) (m1, m2) < 0 then (x1, x2) else (m1, m2) := rfl
      obtain ⟨c, hc⟩ : ∃ c, cmpS (x1, x2) (m1, m2) = c := ⟨_, rfl⟩
      simp only [hc] at hcmp
      rw [hc] at hmst
      have HMS := Lib.hid hmst; have HCMP := Lib.hid hcmp
      clear hcs hmst hc hcmp
      dsimp only at *
      have g0 := fun g => grow_cell e0 g; have g1 := fun g => grow_cell e1 g; have g2 := fun g => grow_cell k0 g; have g3 := fun g => grow_cell k1 g
      go_wp2_with fail
      refine wp_region_grow (by kernel_rfl) (by kernel_rfl) ?_
      repeat (go_big_quiet_step (exact calls_grow (HCMP.out _)))
      refine wpQuiet_nil ?_
      rintro w' ⟨g, rfl⟩
      have hMg := Lib.hid (mining_pure hM.out (grow_pure wr g))
      have f2 := fun j => arr_frozen hMg.out.2.1 j
      have s0 := g0 g; have s1 := g1 g; have s2 := g2 g; have s3 := g3 g
      clear g0 g1 g2 g3 e0 e1 k0 k1 f1
      by_cases hlt0 : c < 0
      · have HN := Lib.hid (show Mining w (minTo l (k + 1)) _ from by rw [HTS.out, HMS.out, if_pos hlt0]; exact mining_store hMg.out (x1, x2))
        go_wp2
        go_roundw
        case rel => exact ⟨k + 1, by omega, by omega, by go_num, HN⟩
        case measure => simp [intOf]; omega
      · have HN := Lib.hid (show Mining w (minTo l (k + 1)) _ from by rw [HTS.out, HMS.out, if_neg hlt0]; exact hMg.out)
        go_wp2
        go_roundw
        case rel => exact ⟨k + 1, by omega, by omega, by go_num, HN⟩
        case measure => simp [intOf]; omega
    · have hall : minTo l k = m := by rw [← HR.out]; unfold minS; rw [show k = l.length by rw [← HL.out]; omega]
      rw [hall] at e0 e1
      have HO := Lib.hid (hM.out.2.2.trans' (((Only.refl (fun i => i = w.heap.size) wr).setCell (p := ⟨w.heap.size, 0, none⟩) (.inl rfl) (.int .i64 m.1)).setCell (p := ⟨w.heap.size, 1, none⟩) (.inl rfl) (.int .i64 m.2)) (fun i hi e => by omega))
      have s1 := heap_setCell_same wr _ 0 _ _ (.int .i64 m.1) b0
      have s2 := heap_setCell_same _ _ 1 _ _ (.int .i64 m.2) s1
      have E0 : (wr.setCell ⟨w.heap.size, 0, none⟩ (.int .i64 m.1)).cell? ⟨w.heap.size, 0, none⟩ = some (.int .i64 m.1) := cell_of_row _ _ _ _ _ _ s1
      have E1 : ((wr.setCell ⟨w.heap.size, 0, none⟩ (.int .i64 m.1)).setCell ⟨w.heap.size, 1, none⟩ (.int .i64 m.2)).cell? ⟨w.heap.size, 1, none⟩ = some (.int .i64 m.2) := cell_of_row _ _ _ _ _ _ s2
      have HE0 := Lib.hid E0; have HE1 := Lib.hid E1
      clear hall b1 b0 s1 s2 E0 E1
      go_wp2
      exact bodyPost_ret (v := .agg #[.int .i64 m.1, .int .i64 m.2]) (by have E0 := HE0.out; have E1 := HE1.out; simp [results, Try.results76, go_sem, E0, E1]) rfl ⟨rfl, HO.out⟩
end Go.Proofs.Ytbiffhekbnmffaa
