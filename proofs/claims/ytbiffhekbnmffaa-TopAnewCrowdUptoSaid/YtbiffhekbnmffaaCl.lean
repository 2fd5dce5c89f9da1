/-
  Serving, in plain words: who comes, who is served, who is shut out.
-/
import Derived.Test.YtbiffhekbnmffaaCk
namespace Go.Proofs.Ytbiffhekbnmffaa
open Go.RowKit

def comes (l : List Person) (come : List Int) (m : Int) (i : Nat) : Bool := decide (come[i]?.getD 0 = m) && decide (m ≤ tilAt l i)
def arriveTo (l : List Person) (come : List Int) (m : Int) (W : List Nat) (j : Nat) : List Nat := (List.range come.length).filter fun i => W.contains i || (decide (i < j) && comes l come m i)
theorem mem_arriveTo {l : List Person} {come : List Int} {m : Int} {W : List Nat} {j i : Nat} : i ∈ arriveTo l come m W j ↔ i < come.length ∧ (i ∈ W ∨ (i < j ∧ comes l come m i = true)) := by
  unfold arriveTo; simp [List.mem_filter]
theorem waitF_congr {l : List Person} {W W' : List Nat} (h : ∀ i, i ∈ W ↔ i ∈ W') (x : Slip) : waitF l W x = waitF l W' x := by
  have : x ∈ W.map (wkey l) ↔ x ∈ W'.map (wkey l) := by simp only [List.mem_map, h]
  unfold waitF; simp only [this]
theorem arrive_start {l : List Person} {come : List Int} {m : Int} {W : List Nat} (hW : ∀ i ∈ W, i < come.length) (x : Slip) : waitF l W x = waitF l (arriveTo l come m W 0) x :=
  waitF_congr (fun i => by rw [mem_arriveTo]; constructor; exact fun h => ⟨hW i h, .inl h⟩; rintro ⟨_, h | h⟩; exact h; omega) x
theorem arrive_end {l : List Person} {come : List Int} {m : Int} {W : List Nat} {j : Nat} (hj : come.length ≤ j) : arriveTo l come m W j = arrive l come m W := by
  unfold arriveTo arrive comes
  apply List.filter_congr
  intro i hi
  have := List.mem_range.1 hi
  have h : decide (i < j) = true := by simpa using (by omega : i < j)
  rw [h, Bool.true_and]
theorem arrive_put {l : List Person} {come : List Int} {m : Int} {W : List Nat} {j : Nat} (hj : j < come.length) (hc : comes l come m j = true) (x : Slip) : upd (waitF l (arriveTo l come m W j)) (wkey l j) (some (.int .i64 1)) x = waitF l (arriveTo l come m W (j + 1)) x := by
  unfold upd
  by_cases hx : x = wkey l j
  · rw [if_pos hx, hx]
    unfold waitF
    rw [if_pos (mem_wkey.2 (mem_arriveTo.2 ⟨hj, .inr ⟨by omega, hc⟩⟩))]
  · rw [if_neg hx]
    unfold waitF
    have : x ∈ (arriveTo l come m W j).map (wkey l) ↔ x ∈ (arriveTo l come m W (j + 1)).map (wkey l) := by
      simp only [List.mem_map]
      constructor
      · rintro ⟨i, hi, e⟩; rw [mem_arriveTo] at hi; exact ⟨i, mem_arriveTo.2 ⟨hi.1, hi.2.imp id (fun h => ⟨by omega, h.2⟩)⟩, e⟩
      · rintro ⟨i, hi, e⟩
        rw [mem_arriveTo] at hi
        have hne : i ≠ j := fun h => hx (by rw [← e, h])
        exact ⟨i, mem_arriveTo.2 ⟨hi.1, hi.2.imp id (fun h => ⟨by omega, h.2⟩)⟩, e⟩
    simp only [this]
theorem arrive_skip {l : List Person} {come : List Int} {m : Int} {W : List Nat} {j : Nat} (hc : comes l come m j = false) (x : Slip) : waitF l (arriveTo l come m W j) x = waitF l (arriveTo l come m W (j + 1)) x :=
  waitF_congr (fun i => by
    rw [mem_arriveTo, mem_arriveTo]
    constructor
    · exact fun h => ⟨h.1, h.2.imp id (fun h => ⟨by omega, h.2⟩)⟩
    · rintro ⟨h1, h2 | ⟨h2, h3⟩⟩
      · exact ⟨h1, .inl h2⟩
      · refine ⟨h1, .inr ⟨?_, h3⟩⟩
        have : i ≠ j := fun e => by rw [e, hc] at h3; cases h3
        omega) x
theorem take_put {l : List Person} {W : List Nat} {b : Nat} (x : Slip) : upd (waitF l W) (wkey l b) none x = waitF l (W.filter (fun i => decide (i ≠ b))) x := by
  unfold upd
  by_cases hx : x = wkey l b
  · rw [if_pos hx, hx]
    unfold waitF
    rw [if_neg (fun h => by have := mem_wkey.1 h; simp at this)]
  · rw [if_neg hx]
    unfold waitF
    have : x ∈ W.map (wkey l) ↔ x ∈ (W.filter (fun i => decide (i ≠ b))).map (wkey l) := by
      simp only [List.mem_map, List.mem_filter, decide_eq_true_eq]
      constructor
      · rintro ⟨i, hi, e⟩; exact ⟨i, ⟨hi, fun h => hx (by rw [← e, h])⟩, e⟩
      · rintro ⟨i, hi, e⟩; exact ⟨i, hi.1, e⟩
    simp only [this]
theorem takeK_stuck (l : List Person) (m : Int) (s : List Int × List Nat) : ∀ (k q : Nat), q ≤ k → (takeK l m s q).2 = [] → takeK l m s k = takeK l m s q
  | 0, q, hq, _ => by rw [show q = 0 by omega]
  | k + 1, q, hq, h => by
    by_cases e : q = k + 1
    · rw [e]
    · have ih := takeK_stuck l m s k q (by omega) h
      show takeStep l m (takeK l m s k) = _
      rw [ih]; unfold takeStep; rw [if_pos h]

/-- What holds of who waits. -/
def Fine (n : Nat) (s : List Int × List Nat) : Prop := s.1.length = n ∧ s.2.Nodup ∧ ∀ i ∈ s.2, i < n
theorem fine_arrive (l : List Person) (come : List Int) (m : Int) (W : List Nat) (o : List Int) (h : o.length = come.length) : Fine come.length (o, arrive l come m W) :=
  ⟨h, List.Pairwise.filter _ List.nodup_range, fun i hi => by have := (List.mem_filter.1 hi).1; exact List.mem_range.1 this⟩
theorem fine_step {n : Nat} {l : List Person} {m : Int} {s : List Int × List Nat} (h : Fine n s) : Fine n (takeStep l m s) := by
  unfold takeStep
  split
  · exact h
  · exact ⟨by simpa using h.1, List.Pairwise.filter _ h.2.1, fun i hi => h.2.2 i (List.mem_filter.1 hi).1⟩
theorem fine_take {n : Nat} {l : List Person} {m : Int} {s : List Int × List Nat} (h : Fine n s) : ∀ k, Fine n (takeK l m s k)
  | 0 => h
  | k + 1 => fine_step (fine_take h k)
theorem fine_minute (l : List Person) (k : Nat) (come : List Int) (m : Int) (s : List Int × Int × List Nat) (h : s.1.length = come.length) : Fine come.length ((minuteStep l k come m s).1, (minuteStep l k come m s).2.2) := by
  have := fine_take (l := l) (m := m) (fine_arrive l come m s.2.2 s.1 h) k
  exact ⟨this.1, List.Pairwise.filter _ this.2.1, fun i hi => this.2.2 i (List.mem_filter.1 hi).1⟩
theorem fine_serve (l : List Person) (k : Nat) (come : List Int) : ∀ m, Fine come.length ((serveTo l k come m).1, (serveTo l k come m).2.2)
  | 0 => ⟨by simp [serveTo], by simp [serveTo], by simp [serveTo]⟩
  | m + 1 => fine_minute l k come _ _ (fine_serve l k come m).1
theorem nodup_bound (W : List Nat) (n : Nat) (hn : W.Nodup) (h : ∀ i ∈ W, i < n) : W.length ≤ n := by
  have := nodup_sub W (List.range n) hn (fun x hx => List.mem_range.2 (h x hx))
  simpa using this
theorem shut_bd (l : List Person) (k : Nat) (come : List Int) : ∀ m : Nat, 0 ≤ (serveTo l k come m).2.1 ∧ (serveTo l k come m).2.1 ≤ m * come.length
  | 0 => by simp [serveTo]
  | m + 1 => by
    have ih := shut_bd l k come m
    have hf := fine_take (l := l) (m := (m : Int) + 1) (fine_arrive l come ((m : Int) + 1) (serveTo l k come m).2.2 (serveTo l k come m).1 (fine_serve l k come m).1) k
    have h1 := nodup_bound _ _ hf.2.1 hf.2.2
    have h2 := List.length_filter_le (fun i => decide (tilAt l i = (m : Int) + 1)) (takeK l ((m : Int) + 1) ((serveTo l k come m).1, arrive l come ((m : Int) + 1) (serveTo l k come m).2.2) k).2
    have e : (serveTo l k come (m + 1)).2.1 = (serveTo l k come m).2.1 + (((takeK l ((m : Int) + 1) ((serveTo l k come m).1, arrive l come ((m : Int) + 1) (serveTo l k come m).2.2) k).2.filter fun i => decide (tilAt l i = (m : Int) + 1)).length : Nat) := rfl
    rw [e, Int.natCast_succ, Int.add_mul]
    omega

/-- What a map holds while it is swept: who waits, but those of the list that are shut out. -/
def sweepF (l : List Person) (W : List Nat) (m : Int) (pre : List Slip) : Slip → Option Value := fun x => if x ∈ W.map (wkey l) ∧ ¬ (x ∈ pre ∧ x.1 = m) then some (.int .i64 1) else none
theorem sweep_start (l : List Person) (W : List Nat) (m : Int) (x : Slip) : waitF l W x = sweepF l W m [] x := by unfold waitF sweepF; simp
theorem sweep_stay (l : List Person) (W : List Nat) (m : Int) (pre : List Slip) (y : Slip) (hy : y.1 ≠ m) (x : Slip) : sweepF l W m pre x = sweepF l W m (pre ++ [y]) x := by
  have : (x ∈ pre ∧ x.1 = m) ↔ (x ∈ pre ++ [y] ∧ x.1 = m) := by
    simp only [List.mem_append, List.mem_singleton]
    constructor
    · exact fun h => ⟨.inl h.1, h.2⟩
    · rintro ⟨h | rfl, h2⟩
      · exact ⟨h, h2⟩
      · exact absurd h2 hy
  unfold sweepF; simp only [this]
theorem sweep_drop (l : List Person) (W : List Nat) (m : Int) (pre : List Slip) (y : Slip) (hy : y.1 = m) (x : Slip) : upd (sweepF l W m pre) y none x = sweepF l W m (pre ++ [y]) x := by
  unfold upd
  by_cases hx : x = y
  · subst hx; rw [if_pos rfl]; unfold sweepF; rw [if_neg (fun h => h.2 ⟨by simp, hy⟩)]
  · rw [if_neg hx]
    have : (x ∈ pre ∧ x.1 = m) ↔ (x ∈ pre ++ [y] ∧ x.1 = m) := by simp [hx]
    unfold sweepF; simp only [this]
theorem sweep_end (l : List Person) (W : List Nat) (m : Int) (pre : List Slip) (hp : ∀ x, x ∈ pre ↔ x ∈ W.map (wkey l)) (x : Slip) : sweepF l W m pre x = waitF l (W.filter fun i => decide (tilAt l i ≠ m)) x := by
  unfold sweepF waitF
  have : (x ∈ W.map (wkey l) ∧ ¬ (x ∈ pre ∧ x.1 = m)) ↔ x ∈ (W.filter fun i => decide (tilAt l i ≠ m)).map (wkey l) := by
    rw [hp]
    simp only [List.mem_map, List.mem_filter, decide_eq_true_eq]
    constructor
    · rintro ⟨⟨i, hi, rfl⟩, h2⟩; exact ⟨i, ⟨hi, fun e => h2 ⟨⟨i, hi, rfl⟩, e⟩⟩, rfl⟩
    · rintro ⟨i, ⟨hi, hne⟩, rfl⟩; exact ⟨⟨i, hi, rfl⟩, fun h => hne h.2⟩
  simp only [this]
theorem sweep_count (l : List Person) (W : List Nat) (m : Int) (pre : List Slip) (hW : W.Nodup) (hn : pre.Nodup) (hp : ∀ x, x ∈ pre ↔ x ∈ W.map (wkey l)) : (pre.filter fun x => decide (x.1 = m)).length = (W.filter fun i => decide (tilAt l i = m)).length := by
  apply Nat.le_antisymm
  · have := nodup_sub (pre.filter fun x => decide (x.1 = m)) ((W.filter fun i => decide (tilAt l i = m)).map (wkey l)) (List.Pairwise.filter _ hn) (fun x hx => by
      obtain ⟨h1, h2⟩ := List.mem_filter.1 hx
      obtain ⟨i, hi, rfl⟩ := List.mem_map.1 ((hp x).1 h1)
      exact List.mem_map.2 ⟨i, List.mem_filter.2 ⟨hi, h2⟩, rfl⟩)
    simpa using this
  · have hnd : ((W.filter fun i => decide (tilAt l i = m)).map (wkey l)).Nodup := by
      have : (W.filter fun i => decide (tilAt l i = m)).Nodup := List.Pairwise.filter _ hW
      exact List.Pairwise.map _ (fun a b hab e => hab (wkey_inj e)) this
    have := nodup_sub _ (pre.filter fun x => decide (x.1 = m)) hnd (fun x hx => by
      obtain ⟨i, hi, rfl⟩ := List.mem_map.1 hx
      obtain ⟨h1, h2⟩ := List.mem_filter.1 hi
      exact List.mem_filter.2 ⟨(hp _).2 (List.mem_map.2 ⟨i, h1, rfl⟩), h2⟩)
    simpa using this
end Go.Proofs.Ytbiffhekbnmffaa
