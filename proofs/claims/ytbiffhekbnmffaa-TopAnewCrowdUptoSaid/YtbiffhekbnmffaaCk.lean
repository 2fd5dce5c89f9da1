/-
  The slip that is served next.
-/
import Derived.Test.YtbiffhekbnmffaaCj
namespace Go.Proofs.Ytbiffhekbnmffaa
open Go.RowKit Go.Shelf

set_option maxHeartbeats 400000 in
theorem collect_any (gf : Nat) (lb : Array Value) (N : Nat) (S : List Slip → Prop) (w : World) (hN : N ≤ 1048576) (hgf : ∀ args w, (callFunc gf args).run Try.prog w = .ok (.enter gf args) w)
    (hseq : ∀ W, Below w.heap.size w W → SeqStopsK Fence.wide 9 Try.prog gf lb (fun t => #[slipV t]) KeepsWalks S (fun _ => True) N W) :
    Calls Try.prog 62 #[.func (.func gf) #[] lb] w fun e w' => ∃ v l, e = .returned v ∧ S l ∧ w'.ownsRow w.heap.size 101 2 v l.length (l.flatMap pairC) ∧ Pure w w' := by
  have hC := appendSeq_any gf lb N S w hN hgf hseq
  clear hseq
  go_enter Try.func62, Try.ntmps62
  go_wp2_with fail
  refine hC.mono ?_
  rintro e w' ⟨v, l, rfl, hS, ho, hP⟩
  obtain ⟨ao, ac, rfl, _⟩ := owns_form ho
  have HO := Lib.hid ho; have HS := Lib.hid hS
  clear ho hS hC
  go_wp2
  go_ret
  exact ⟨_, l, rfl, HS.out, HO.out, hP⟩

set_option maxHeartbeats 400000 in
theorem least_any (D : Nat → Prop) (v : Value) (l : List Slip) (w : World) (hv : Pairs D w v l) (h1 : 1 ≤ l.length) :
    Calls Try.prog 61 #[v, .func (.func 64) #[] #[]] w fun e w' => e = .returned (.agg #[.int .i64 (minS l).1, .int .i64 (minS l).2]) ∧ Pure w w' := by
  have hP0 : Pure w (w.alloc (.cells #[.int .i64 0, .int .i64 0] 101)) := (Only.refl _ w).alloc _
  have hC := minFunc_any D v l _ (hv.pure hP0) h1
  obtain ⟨a, n, c, rfl⟩ : ∃ a n c, v = .slice a n c := by obtain ⟨a, n, c, hv, _⟩ := hv; exact ⟨a, n, c, hv⟩
  clear hv
  go_enter Try.func61, Try.ntmps61
  go_wp2_with fail
  refine hC.mono ?_
  rintro e w' ⟨rfl, hP⟩
  have hb := hP.heap (World.alloc_heap_new w _) (fun f => f)
  have k0 : w'.cell? ⟨w.heap.size, 0, none⟩ = some (.int .i64 0) := cell_of_row _ _ _ _ _ _ hb
  have k1 : w'.cell? ⟨w.heap.size, 1, none⟩ = some (.int .i64 0) := cell_of_row _ _ _ _ _ _ hb
  have f0 := fun j => arr_frozen hb j
  obtain ⟨m, hm⟩ : ∃ m, minS l = m := ⟨_, rfl⟩
  have s1 := heap_setCell_same w' _ 0 _ _ (.int .i64 m.1) hb
  have s2 := heap_setCell_same _ _ 1 _ _ (.int .i64 m.2) s1
  have E0 : (w'.setCell ⟨w.heap.size, 0, none⟩ (.int .i64 m.1)).cell? ⟨w.heap.size, 0, none⟩ = some (.int .i64 m.1) := cell_of_row _ _ _ _ _ _ s1
  have E1 : ((w'.setCell ⟨w.heap.size, 0, none⟩ (.int .i64 m.1)).setCell ⟨w.heap.size, 1, none⟩ (.int .i64 m.2)).cell? ⟨w.heap.size, 1, none⟩ = some (.int .i64 m.2) := cell_of_row _ _ _ _ _ _ s2
  have HE0 := Lib.hid E0; have HE1 := Lib.hid E1
  have HO := Lib.hid ((hP0.trans hP).trans' (((Only.refl (fun i => i = w.heap.size) w').setCell (p := ⟨w.heap.size, 0, none⟩) (.inl rfl) (.int .i64 m.1)).setCell (p := ⟨w.heap.size, 1, none⟩) (.inl rfl) (.int .i64 m.2)) (fun i hi e => by omega))
  clear hb s1 s2 E0 E1 hC
  rw [hm]
  have HM := Lib.hid hm
  clear hm
  go_wp2
  exact bodyPost_ret (v := .agg #[.int .i64 m.1, .int .i64 m.2]) (by have E0 := HE0.out; have E1 := HE1.out; simp [results, Try.results61, go_sem, E0, E1]) rfl ⟨by rw [HM.out], HO.out⟩

/-! ### Who waits -/
theorem nodup_sub {α : Type} [DecidableEq α] : ∀ (L M : List α), L.Nodup → (∀ x ∈ L, x ∈ M) → L.length ≤ M.length
  | [], _, _, _ => Nat.zero_le _
  | x :: L, M, hn, hs => by
    have hx : x ∈ M := hs x List.mem_cons_self
    have hn' := List.nodup_cons.1 hn
    have := nodup_sub L (M.erase x) hn'.2 (fun y hy => (List.mem_erase_of_ne (fun e => by subst e; exact hn'.1 hy)).2 (hs y (List.mem_cons_of_mem _ hy)))
    rw [List.length_erase_of_mem hx] at this
    have hM : 0 < M.length := List.length_pos_of_mem hx
    rw [List.length_cons]; omega
def wkey (l : List Person) (i : Nat) : Slip := (tilAt l i, (i : Int))
def waitF (l : List Person) (W : List Nat) : Slip → Option Value := fun x => if x ∈ W.map (wkey l) then some (.int .i64 1) else none
theorem waitF_some {l : List Person} {W : List Nat} {x : Slip} : waitF l W x ≠ none ↔ x ∈ W.map (wkey l) := by unfold waitF; split <;> simp [*]
theorem waitF_N (l : List Person) (W : List Nat) (L : List Slip) (hn : L.Nodup) (h : ∀ x ∈ L, waitF l W x ≠ none) : L.length ≤ W.length := by
  have := nodup_sub L (W.map (wkey l)) hn (fun x hx => waitF_some.1 (h x hx))
  simpa using this
theorem wkey_inj {l : List Person} {i j : Nat} (h : wkey l i = wkey l j) : i = j := by unfold wkey at h; simp only [Prod.mk.injEq] at h; omega
theorem mem_wkey {l : List Person} {W : List Nat} {i : Nat} : wkey l i ∈ W.map (wkey l) ↔ i ∈ W := by
  constructor
  · intro h; obtain ⟨j, hj, e⟩ := List.mem_map.1 h; rw [← wkey_inj e]; exact hj
  · intro h; exact List.mem_map.2 ⟨i, h, rfl⟩
theorem cmp_wkey (l : List Person) (i j : Nat) : cmpS (wkey l i) (wkey l j) < 0 ↔ lessP l i j = true := by
  rw [cmpS_lt]; unfold wkey lessP; simp
theorem less_iff (l : List Person) (i j : Nat) : lessP l i j = true ↔ tilAt l i < tilAt l j ∨ (tilAt l i = tilAt l j ∧ i < j) := by unfold lessP; simp
theorem best_fold (l : List Person) (r : List Nat) : ∀ m : Nat, (r.foldl (fun b i => if lessP l i b then i else b) m = m ∨ r.foldl (fun b i => if lessP l i b then i else b) m ∈ r) ∧ lessP l m (r.foldl (fun b i => if lessP l i b then i else b) m) = false ∧ ∀ y ∈ r, lessP l y (r.foldl (fun b i => if lessP l i b then i else b) m) = false := by
  induction r with
  | nil => intro m; exact ⟨.inl rfl, by rw [← Bool.not_eq_true, less_iff]; simp, by simp⟩
  | cons x r ih =>
    intro m
    rw [List.foldl_cons]
    by_cases hx : lessP l x m = true
    · rw [if_pos hx]
      obtain ⟨h1, h2, h3⟩ := ih x
      refine ⟨?_, ?_, ?_⟩
      · rcases h1 with h1 | h1
        · rw [h1]; exact .inr List.mem_cons_self
        · exact .inr (List.mem_cons_of_mem _ h1)
      · rw [← Bool.not_eq_true, less_iff] at h2 ⊢; rw [less_iff] at hx; omega
      · intro y hy
        rcases List.mem_cons.1 hy with rfl | hy
        · exact h2
        · exact h3 y hy
    · rw [if_neg hx]
      obtain ⟨h1, h2, h3⟩ := ih m
      refine ⟨?_, h2, ?_⟩
      · rcases h1 with h1 | h1
        · exact .inl h1
        · exact .inr (List.mem_cons_of_mem _ h1)
      · intro y hy
        rcases List.mem_cons.1 hy with rfl | hy
        · rw [less_iff] at hx; rw [← Bool.not_eq_true, less_iff] at h2 ⊢; omega
        · exact h3 y hy
theorem best_spec (l : List Person) (W : List Nat) (h : W ≠ []) : bestP l W ∈ W ∧ ∀ y ∈ W, lessP l y (bestP l W) = false := by
  cases W with
  | nil => exact absurd rfl h
  | cons a r =>
    have e : bestP l (a :: r) = r.foldl (fun b i => if lessP l i b then i else b) a := by
      show (if lessP l a a then a else a : Nat) |> fun m => _ = _
      unfold bestP
      rw [List.headD_cons, List.foldl_cons]
      simp
    obtain ⟨h1, h2, h3⟩ := best_fold l r a
    rw [e]
    refine ⟨?_, fun y hy => ?_⟩
    · rcases h1 with h1 | h1
      · rw [h1]; exact List.mem_cons_self
      · exact List.mem_cons_of_mem _ h1
    · rcases List.mem_cons.1 hy with rfl | hy
      · exact h2
      · exact h3 y hy
/-- The least slip of whoever waits is that of the best one. -/
theorem minS_best (l : List Person) (W : List Nat) (L : List Slip) (hL : Tells (waitF l W) L) (h : W ≠ []) : L ≠ [] ∧ minS L = wkey l (bestP l W) := by
  obtain ⟨hb, hmin⟩ := best_spec l W h
  have hin : wkey l (bestP l W) ∈ L := (hL.2 _).2 (waitF_some.2 (mem_wkey.2 hb))
  have hne : L ≠ [] := fun e => by rw [e] at hin; cases hin
  obtain ⟨h1, h2⟩ := minS_spec L hne
  obtain ⟨j, hj, e⟩ := List.mem_map.1 (waitF_some.1 ((hL.2 _).1 h1))
  refine ⟨hne, ?_⟩
  rw [← e]
  have a1 := h2 _ hin
  rw [← e, cmp_wkey] at a1
  have a2 := hmin j hj
  rw [← Bool.not_eq_true, less_iff] at a2
  rw [less_iff] at a1
  have : j = bestP l W := by omega
  rw [this]
end Go.Proofs.Ytbiffhekbnmffaa
