/-
  Rows of a call's own: kept, read, and handed back.
-/
import Derived.Test.YtcephfmafmmilaaWithin
import Derived.ArgAppend
import Derived.Laws.CopyOwn
import Derived.Laws.MakeOwn
namespace Go.Proofs.Ytcephfmafmmilaa
open Go.RowKit

theorem pure_grown {w w' : World} (h : Pure w w') : w.grownBy w' none := ⟨h.os, h.tape, h.output, h.size, fun k hk _ => h.block k hk (fun f => f)⟩
theorem pure_of_grown {w w' : World} (h : w.grownBy w' none) : Pure w w' := (Only.refl _ w).grown h (fun k e => by cases e)
theorem pure_of_below {w w' : World} (h : Below w.heap.size w w') : Pure w w' := (Only.below h).mono (fun k hk hb => by omega)
theorem below_of_pure {B : Nat} {w w' : World} (h : Pure w w') (hB : B ≤ w.heap.size) : Below B w w' := h.toBelow hB (fun _ _ f => f)
theorem pure_drewN (w : World) (n : Nat) : Pure w (w.drewN n) := (Only.refl _ w).drewN n

theorem owns_keep {w w' : World} {S : Nat → Prop} {B : Nat} {e : TypeId} {s n : Nat} {v : Value} {xs : List Value} (h : w.ownsRow B e s v n xs) (ho : Only S w w') (hs : ∀ k, v.ownBlock = some k → ¬ S k) : w'.ownsRow B e s v n xs := by
  refine ⟨h.1, ?_⟩
  rcases h.2 with hn | ⟨g, cap, cur, rfl, hb, hg, rest⟩
  · exact .inl hn
  · exact .inr ⟨g, cap, cur, rfl, hb, ho.heap hg (hs g rfl), rest⟩
theorem owns_pure {w w' : World} {B : Nat} {e : TypeId} {s n : Nat} {v : Value} {xs : List Value} (h : w.ownsRow B e s v n xs) (ho : Pure w w') : w'.ownsRow B e s v n xs := owns_keep h ho (fun _ _ f => f)
theorem owns_le {w : World} {B B' : Nat} {e : TypeId} {s n : Nat} {v : Value} {xs : List Value} (h : w.ownsRow B e s v n xs) (hb : B' ≤ B) : w.ownsRow B' e s v n xs := by
  refine ⟨h.1, ?_⟩
  rcases h.2 with hn | ⟨g, cap, cur, hv, hbg, rest⟩
  · exact .inl hn
  · exact .inr ⟨g, cap, cur, hv, Nat.le_trans hb hbg, rest⟩
/-- The shape of a row's slice. -/
theorem owns_form {w : World} {B : Nat} {e : TypeId} {s n : Nat} {v : Value} {xs : List Value} (h : w.ownsRow B e s v n xs) :
    ∃ ao ac, v = .slice ao n ac ∧ n ≤ ac ∧ ac ≤ maxLen ∧ (ao = none → n = 0 ∧ ac = 0) ∧ (∀ b, ao = some b → ∃ g, b = ⟨g, 0, none⟩ ∧ B ≤ g ∧ g < w.heap.size) := by
  rcases h.2 with ⟨rfl, rfl⟩ | ⟨g, cap, cur, rfl, hb, hg, hle, hm, _⟩
  · exact ⟨none, 0, rfl, Nat.le_refl _, Nat.zero_le _, fun _ => ⟨rfl, rfl⟩, fun b h => by cases h⟩
  · exact ⟨some ⟨g, 0, none⟩, cap, rfl, hle, hm, (fun h => by cases h), (fun b h => by cases h; exact ⟨g, rfl, hb, lt_of_block hg⟩)⟩
theorem owns_cells {w w' : World} {B : Nat} {e : TypeId} {s n k ac : Nat} {ao : Option Addr} {xs : List Value} (h : w.ownsRow B e s (.slice ao k ac) n xs) (ho : Pure w w') :
    ∀ b, ao = some b → ∀ j u, xs[j]? = some u → w'.cell? (b.add j) = some u := fun b hb j u hj => by
  subst hb
  rcases h.2 with ⟨h', _⟩ | ⟨g, cap', cur, h', hbg, hg, hle, hcm, hcs, htk⟩
  · simp at h'
  · simp only [Value.slice.injEq, Option.some.injEq] at h'
    obtain ⟨rfl, _, rfl⟩ := h'
    exact ho.cell (h.cells rfl j u hj) (fun f => f)
/-- The cells of a row, as a slice that is read. -/
theorem owns_ints {w : World} {B : Nat} {e : TypeId} {v : Value} {l : List Int} (h : w.ownsRow B e 1 v l.length (l.map (.int .i64))) : Ints (fun k => v.ownBlock = some k) w v l := by
  obtain ⟨a, len, cap, rfl, hl, hc, hm, hh⟩ := (ownsRow_slice h).ints
  exact ⟨a, len, cap, rfl, hl, hc, hm, hh⟩
theorem owns_lt {w : World} {B : Nat} {e : TypeId} {s n : Nat} {v : Value} {xs : List Value} (h : w.ownsRow B e s v n xs) : ∀ k, v.ownBlock = some k → B ≤ k ∧ k < w.heap.size := fun k hk => by
  rcases h.2 with ⟨rfl, _⟩ | ⟨g, cap, cur, rfl, hb, hg, _⟩
  · simp [Value.ownBlock] at hk
  · have : g = k := by simpa [Value.ownBlock] using hk
    subst this; exact ⟨hb, lt_of_block hg⟩
theorem Ints.any {D D' : Nat → Prop} {w : World} {v : Value} {l : List Int} (h : Ints D w v l) (hd : ∀ k, D k → D' k) : Ints D' w v l := by
  obtain ⟨a, len, cap, rfl, hl, hc, hm, hh⟩ := h
  exact ⟨a, len, cap, rfl, hl, hc, hm, fun i hi => by obtain ⟨b, o, e, d, r⟩ := hh i hi; exact ⟨b, o, e, hd b d, r⟩⟩
theorem Ints.form {D : Nat → Prop} {w : World} {v : Value} {l : List Int} (h : Ints D w v l) : ∃ a n c, v = .slice a n c := by obtain ⟨a, n, c, rfl, _⟩ := h; exact ⟨a, n, c, rfl⟩

/-- A block of numbers, as a slice that is read. -/
theorem ints_block {w : World} {b : Nat} {cs : Array Value} {t : TypeId} (l : List Int) (n c : Nat) (h : w.heap[b]? = some (.cells cs t (0, 0))) (hn : n = l.length) (hle : n ≤ c) (hc : cs.toList.take n = l.map (.int .i64)) (hm : n ≤ 9223372036854775807) : Ints (fun k => k = b) w (.slice (some ⟨b, 0, none⟩) n c) l := by
  refine ⟨_, n, c, rfl, hn, hle, hm, fun i hi => ⟨b, 0, rfl, rfl, ?_⟩⟩
  rw [Nat.zero_add, cell_of_row _ _ _ _ _ _ h, ← Array.getElem?_toList]
  have h2 : (cs.toList.take n)[i]? = (l.map (.int .i64))[i]? := by rw [hc]
  rw [List.getElem?_take_of_lt hi] at h2
  rw [h2]
  subst hn
  simp [hi]
theorem ints3 {w : World} {b : Nat} {x y z : Int} (h : w.cell? ⟨b, 0, none⟩ = some (.int .i64 x)) (h1 : w.cell? ⟨b, 1, none⟩ = some (.int .i64 y)) (h2 : w.cell? ⟨b, 2, none⟩ = some (.int .i64 z)) : Ints (fun _ => True) w (.slice (some ⟨b, 0, none⟩) 3 3) [x, y, z] :=
  ⟨_, 3, 3, rfl, rfl, Nat.le_refl _, by omega, fun i hi => ⟨b, 0, rfl, trivial, by
    rcases (by omega : i = 0 ∨ i = 1 ∨ i = 2) with rfl | rfl | rfl
    · simpa using h
    · simpa using h1
    · simpa using h2⟩⟩
theorem within_three (lo hi x y z : Int) (b : Nat) (w : World) (h : w.cell? ⟨b, 0, none⟩ = some (.int .i64 x)) (h1 : w.cell? ⟨b, 1, none⟩ = some (.int .i64 y)) (h2 : w.cell? ⟨b, 2, none⟩ = some (.int .i64 z)) :
    Calls Try.prog 44 #[.int .i64 lo, .int .i64 hi, .slice (some ⟨b, 0, none⟩) 3 3] w fun e w' => e = .returned (.bool (withinB lo hi [x, y, z])) ∧ Pure w w' := within_any _ lo hi _ _ w (ints3 h h1 h2)

/-- A row that a call owns, as a slice that is read. -/
theorem owns_slice {w : World} {base : Nat} {e : TypeId} {s : Nat} {v : Value} {n : Nat} {xs : List Value} (h : w.ownsRow base e s v n xs) : SliceAt (fun k => v.ownBlock = some k) w v s xs := by
  obtain ⟨hl, h2⟩ := h
  rcases h2 with ⟨rfl, rfl⟩ | ⟨g, cap, cur, rfl, hb, hg, hn, hm, hcur, htake⟩
  · exact ⟨none, 0, 0, rfl, hl, Nat.le_refl _, Nat.zero_le _, fun h => absurd h (by omega)⟩
  · refine ⟨_, n, cap, rfl, hl, hn, hm, fun _ => ⟨g, 0, rfl, rfl, fun j u hu => ?_⟩⟩
    rw [Nat.zero_add, cell_of_row w g j cur e (0, 0) hg]
    rw [← htake, List.getElem?_take] at hu
    split at hu
    · simpa using hu
    · cases hu
/-- A slice of pairs of numbers, read. -/
def Pairs (D : Nat → Prop) (w : World) (v : Value) (l : List (Int × Int)) : Prop :=
  ∃ a len cap, v = .slice a len cap ∧ len = l.length ∧ len ≤ cap ∧ len ≤ 9223372036854775807 ∧ ∀ i, i < len → ∃ b off, a = some ⟨b, off, none⟩ ∧ D b ∧
    w.cell? ⟨b, off + i * 2, none⟩ = some (.int .i64 (l[i]?.getD (0, 0)).1) ∧ w.cell? ⟨b, off + i * 2 + 1, none⟩ = some (.int .i64 (l[i]?.getD (0, 0)).2)
theorem Pairs.keep {D S : Nat → Prop} {w w' : World} {v : Value} {l : List (Int × Int)} (h : Pairs D w v l) (ho : Only S w w') (hd : ∀ k, D k → ¬ S k) : Pairs D w' v l := by
  obtain ⟨a, len, cap, hv, hl, hc, hm, h⟩ := h
  refine ⟨a, len, cap, hv, hl, hc, hm, fun i hi => ?_⟩
  obtain ⟨b, off, ha, hD, hcell, hcell2⟩ := h i hi
  exact ⟨b, off, ha, hD, ho.cell hcell (hd b hD), ho.cell hcell2 (hd b hD)⟩
theorem Pairs.pure {D : Nat → Prop} {w w' : World} {v : Value} {l : List (Int × Int)} (h : Pairs D w v l) (ho : Pure w w') : Pairs D w' v l := h.keep ho (fun _ _ f => f)
def pairC (p : Int × Int) : List Value := [.int .i64 p.1, .int .i64 p.2]
theorem pairs_flat (l : List (Int × Int)) : (l.flatMap pairC).length = l.length * 2 := flat_length pairC 2 l (fun _ _ => rfl)
theorem SliceAt.pairs {D : Nat → Prop} {w : World} {v : Value} {l : List (Int × Int)} (h : SliceAt D w v 2 (l.flatMap pairC)) : Pairs D w v l := by
  obtain ⟨a, len, cap, rfl, hl, hlc, hm, hc⟩ := h
  rw [pairs_flat] at hl
  have hll : len = l.length := by omega
  refine ⟨a, len, cap, rfl, hll, hlc, by unfold maxLen at hm; omega, fun i hi => ?_⟩
  obtain ⟨b, off, ha, hD, hcell⟩ := hc (by omega)
  have hi' : i < l.length := by omega
  have g0 := flat_get pairC 2 l (fun _ _ => rfl) i 0 hi' (by decide)
  have g1 := flat_get pairC 2 l (fun _ _ => rfl) i 1 hi' (by decide)
  have e : l[i]?.getD (0, 0) = l[i] := by rw [List.getElem?_eq_getElem hi']; rfl
  rw [e]
  exact ⟨b, off, ha, hD, hcell _ _ g0, by rw [Nat.add_assoc]; exact hcell _ _ g1⟩
theorem new_cell (W : World) (cs : Array Value) (t : TypeId) (n i : Nat) (v : Value) (h : n = W.heap.size) (hv : cs[i]? = some v) : (W.alloc (.cells cs t)).cell? ⟨n, i, none⟩ = some v := by
  subst h; rw [cell_of_row _ _ _ _ _ _ (World.alloc_heap_new W _)]; exact hv
theorem owns_full {w : World} {B : Nat} {e : TypeId} {g n : Nat} {xs : List Value} (h : w.ownsRow B e 1 (.slice (some ⟨g, 0, none⟩) n n) n xs) : w.heap[g]? = some (.cells xs.toArray e (0, 0)) ∧ B ≤ g := by
  rcases h.2 with ⟨h', _⟩ | ⟨g', cap, cur, h', hb, hg, hle, hm, hcs, htk⟩
  · simp at h'
  · simp only [Value.slice.injEq, Option.some.injEq, Addr.mk.injEq, and_true, true_and] at h'
    obtain ⟨rfl, rfl⟩ := h'
    refine ⟨?_, hb⟩
    rw [hg, ← htk, List.take_of_length_le (by simpa using Nat.le_of_eq hcs)]
theorem owns_mk {w : World} {B : Nat} {e : TypeId} {g n : Nat} {xs : List Value} (h : w.heap[g]? = some (.cells xs.toArray e (0, 0))) (hb : B ≤ g) (hn : xs.length = n) (hm : n ≤ maxLen) : w.ownsRow B e 1 (.slice (some ⟨g, 0, none⟩) n n) n xs :=
  ⟨by omega, .inr ⟨g, n, xs.toArray, rfl, hb, h, Nat.le_refl _, hm, by simp [hn], by rw [List.take_of_length_le (by simp [hn])]⟩⟩
theorem made_zeros (n : Nat) : (madeCells (Value.int .i64 0).cells (n * 1)).toList = (List.replicate n (0 : Int)).map (.int .i64) := by
  rw [Nat.mul_one, List.map_replicate]
  apply List.ext_getElem
  · simp [madeCells, Value.cells]
  · intro i h1 h2; simp [madeCells, Value.cells, Nat.mod_one]
theorem made_zeros1 (n : Nat) : (madeCells #[Value.int .i64 0] n).toList = (List.replicate n (0 : Int)).map (.int .i64) := by
  have := made_zeros n; rw [Nat.mul_one] at this; exact this
theorem splice_all (cur cs : List Value) (h : cs.length = cur.length) : splice cur 0 cs = cs := by unfold splice; simp [h]
theorem infoI64 : (Try.prog.info? 2).map (fun i => (i.zero, i.size, i.bytes)) = some (some (.int .i64 0), 1, 8) := by kernel_rfl
end Go.Proofs.Ytcephfmafmmilaa
