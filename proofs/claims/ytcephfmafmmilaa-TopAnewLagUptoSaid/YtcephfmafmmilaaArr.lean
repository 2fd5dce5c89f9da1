/-
  Arrays of numbers: as equal, as written, as cleared.
-/
import Derived.Test.YtcephfmafmmilaaOwn
import Derived.ChangeKeysEq
import Derived.Laws.Rows
namespace Go.Proofs.Ytcephfmafmmilaa
open Go.RowKit
section
variable {P : Program}
theorem drops_eq (xs ys : List Int) (j : Nat) (hx : j < xs.length) (hy : j < ys.length) : decide (xs.drop j = ys.drop j) = (decide (xs[j] = ys[j]) && decide (xs.drop (j + 1) = ys.drop (j + 1))) := by
  have h1 : (xs.drop j = ys.drop j) ↔ (xs[j] = ys[j] ∧ xs.drop (j + 1) = ys.drop (j + 1)) := by
    rw [List.drop_eq_getElem_cons hx, List.drop_eq_getElem_cons hy, List.cons.injEq]
  rw [Bool.eq_iff_iff]; simpa using h1
theorem run_eqItems_ints (d : Nat) (w : World) {e : TypeId} {k : IntKind} (he : P.underlying e = some (.int k)) (hp : P.plainKey e = true) (hc : P.cellsOf e = 1) (xs ys : List Int) : ∀ (m j : Nat), j + m = xs.length → j + m = ys.length →
    (Op.eqItems (d + 1) e (P.cellsOf e) (xs.map (Value.int k)).toArray (ys.map (Value.int k)).toArray (List.range' j m)).run P w = .ok (decide (xs.drop j = ys.drop j)) w
  | 0, j, hx, hy => by
    rw [List.drop_of_length_le (by omega), List.drop_of_length_le (by omega)]
    simp [Op.eqItems]
  | m + 1, j, hx, hy => by
    have ih := run_eqItems_ints d w he hp hc xs ys m (j + 1) (by omega) (by omega)
    have hjx : j < xs.length := by omega
    have hjy : j < ys.length := by omega
    have p1 : (part e (xs.map (Value.int k)).toArray (j * P.cellsOf e)).run P w = .ok (.int k xs[j]) w := run_part_plain w hp (by rw [hc]; simp [hjx])
    have p2 : (part e (ys.map (Value.int k)).toArray (j * P.cellsOf e)).run P w = .ok (.int k ys[j]) w := run_part_plain w hp (by rw [hc]; simp [hjy])
    rw [List.range'_succ, drops_eq xs ys j hjx hjy]
    simp only [Op.eqItems, Sem.run_bind, p1, p2, Result.andThen_ok]
    by_cases h : xs[j] = ys[j]
    · have : (Op.equalIn (d + 1) e (Value.int k xs[j]) (Value.int k ys[j])).run P w = .ok true w := by simp only [Op.equalIn, Sem.run_bind, run_underlying he, Result.andThen_ok]; simp [h]
      rw [this]
      simp only [Result.andThen_ok, Bool.not_true, Bool.false_eq_true, if_false, ih, h, decide_true, Bool.true_and]
    · have : (Op.equalIn (d + 1) e (Value.int k xs[j]) (Value.int k ys[j])).run P w = .ok false w := by simp only [Op.equalIn, Sem.run_bind, run_underlying he, Result.andThen_ok]; simp [h]
      rw [this]
      simp [h]
theorem run_equal_ints (w : World) {t e : TypeId} {n : Nat} {i : TypeInfo} {k : IntKind} (hu : P.underlying t = some (.array n e)) (hi : P.info? e = some i) (he : P.underlying e = some (.int k)) (hp : P.plainKey e = true) (hc : P.cellsOf e = 1)
    (xs ys : List Int) (hx : xs.length = n) (hy : ys.length = n) :
    (Op.equalIn 10000 t (.agg (xs.map (Value.int k)).toArray) (.agg (ys.map (Value.int k)).toArray)).run P w = .ok (decide (xs = ys)) w := by
  refine (run_equalIn_array w 9999 _ _ hu hi).trans ?_
  have := run_eqItems_ints 9998 w he hp hc xs ys n 0 (by omega) (by omega)
  rw [← List.range_eq_range'] at this
  simpa using this
end

/-- 'clear' of a part of a row. -/
theorem run_clear_row {P : Program} (w : World) (t e ty : TypeId) (z : Value) (ht : P.underlying t = some (.slice e)) (hv : (zeroValue e).run P w = .ok z w) (hz : z.cells = #[z]) (h1 : z.oneCell' = true)
    (g o n c : Nat) (cur : Array Value) (te : TypeId) (hg : w.heap[g]? = some (.cells cur te (0, 0))) (hn : 0 < n) (hfit : o + n ≤ cur.size) :
    ∃ w', (Builtin.clear_ #[t] ty #[.slice (some ⟨g, o, none⟩) n c]).run P w = .ok (.tuple #[]) w' ∧ Only (fun k => k = g) w w' ∧ w'.heap[g]? = some (.cells (cur.toList.take o ++ List.replicate n z ++ cur.toList.drop (o + n)).toArray te (0, 0)) := by
  have hzc : (Builtin.zeroCells z.cells n).toList = List.replicate n z := by
    rw [hz]
    simp [Builtin.zeroCells]
    apply List.ext_getElem
    · simp
    · intro i h1 h2
      simp [Nat.mod_one]
  have hst := run_storeCells_at P g o te (List.replicate n z) 0 cur w hg (by simpa using hfit) (by intro v hv'; rw [List.eq_of_mem_replicate hv']; exact h1)
  simp only [Nat.add_zero, List.length_replicate] at hst
  obtain ⟨m, rfl⟩ : ∃ m, n = m + 1 := ⟨n - 1, by omega⟩
  refine ⟨_, by simp [Builtin.clear_, run_underlying ht, hv, hzc, hst]; rfl, ?_, ?_⟩
  · exact ⟨rfl, rfl, rfl, by simp [World.setRow], fun k hk hn => by simp only [World.setRow]; rw [Array.getElem?_modify, if_neg (Ne.symm hn)]⟩
  · simp only [World.setRow]
    rw [Array.getElem?_modify]
    simp [hg]
theorem arr_set {k : IntKind} (l : List Int) (i : Nat) (x : Int) : (l.map (Value.int k)).toArray.setIfInBounds i (.int k x) = ((l.set i x).map (Value.int k)).toArray := by
  rw [List.setIfInBounds_toArray, List.map_set]
theorem arr_get {w : World} {g : Nat} {k : IntKind} {l : List Int} {t : TypeId} (h : w.heap[g]? = some (.cells (l.map (Value.int k)).toArray t (0, 0))) (i : Nat) (hi : i < l.length) : w.cell? ⟨g, i, none⟩ = some (.int k (l[i]?.getD 0)) := by
  rw [cell_of_row _ _ _ _ _ _ h]; simp [hi]
theorem arr_frozen {w : World} {g : Nat} {cs : Array Value} {t : TypeId} (h : w.heap[g]? = some (.cells cs t (0, 0))) (i : Nat) : w.frozen? ⟨g, i, none⟩ = false := by simp [World.frozen?, h]
theorem arr_store {w : World} {g : Nat} {k : IntKind} {l : List Int} {t : TypeId} (h : w.heap[g]? = some (.cells (l.map (Value.int k)).toArray t (0, 0))) (i : Nat) (x : Int) :
    (w.setCell ⟨g, i, none⟩ (.int k x)).heap[g]? = some (.cells ((l.set i x).map (Value.int k)).toArray t (0, 0)) := by
  rw [← arr_set]; exact heap_setCell_same _ _ i _ _ _ h
end Go.Proofs.Ytcephfmafmmilaa
