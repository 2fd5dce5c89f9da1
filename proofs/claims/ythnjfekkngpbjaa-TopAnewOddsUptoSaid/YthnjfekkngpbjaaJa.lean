/-
  Parts of the proof: Kit, Heap, Within, Own, Arr, Maps.
-/
import Derived.WalkKit
import Derived.Lib.Hide
import Derived.Deep.QuietTactic
import Derived.BigQuiet
import Derived.Maps.AppendAt
import Derived.RangeFuncBox
import Derived.Test.YthnjfekkngpbjaaChecked
import Derived.ArgAppend
import Derived.Laws.CopyOwn
import Derived.Laws.MakeOwn
import Derived.ChangeKeysEq
import Derived.Laws.Rows
import Derived.Maps.RangeRun
import Derived.Laws.StructEq
/- Plain lemmas about worlds that the other texts of this claim use: reading slices, what a step leaves alone, a heap of numbers and strings. -/
namespace Go.Proofs.Ythnjfekkngpbjaa
open Go.RowKit

/-- All blocks but those of S are as they were. -/
structure Only (S : Nat → Prop) (w w' : World) : Prop where
  os : w'.os = w.os
  tape : w'.tape = w.tape
  output : w'.output = w.output
  size : w.heap.size ≤ w'.heap.size
  block : ∀ k, k < w.heap.size → ¬ S k → w'.heap[k]? = w.heap[k]?

theorem Only.refl (S : Nat → Prop) (w : World) : Only S w w := ⟨rfl, rfl, rfl, Nat.le_refl _, fun _ _ _ => rfl⟩
theorem Only.trans {S : Nat → Prop} {a b c : World} (h : Only S a b) (k : Only S b c) : Only S a c :=
  ⟨k.os.trans h.os, k.tape.trans h.tape, k.output.trans h.output, Nat.le_trans h.size k.size, fun i hi hs => (k.block i (Nat.lt_of_lt_of_le hi h.size) hs).trans (h.block i hi hs)⟩
theorem Only.mono {S S' : Nat → Prop} {a b : World} (h : Only S a b) (hs : ∀ k, k < a.heap.size → S k → S' k) : Only S' a b :=
  ⟨h.os, h.tape, h.output, h.size, fun i hi hn => h.block i hi (fun x => hn (hs i hi x))⟩
/-- A step from a later world, seen from an earlier one: new blocks do not count. -/
theorem Only.trans' {S S' : Nat → Prop} {a b c : World} (h : Only S a b) (k : Only S' b c) (hs : ∀ i, i < a.heap.size → S' i → S i) : Only S a c :=
  ⟨k.os.trans h.os, k.tape.trans h.tape, k.output.trans h.output, Nat.le_trans h.size k.size, fun i hi hn => (k.block i (Nat.lt_of_lt_of_le hi h.size) (fun x => hn (hs i hi x))).trans (h.block i hi hn)⟩
theorem Only.drew {S : Nat → Prop} {a w : World} (h : Only S a w) : Only S a w.drew := ⟨h.os, h.tape, h.output, h.size, h.block⟩
theorem Only.drewN {S : Nat → Prop} {a w : World} (h : Only S a w) (n : Nat) : Only S a (w.drewN n) := ⟨h.os, h.tape, h.output, h.size, h.block⟩
theorem Only.alloc {S : Nat → Prop} {a w : World} (h : Only S a w) (o : Obj) : Only S a (w.alloc o) :=
  h.trans' (S' := fun _ => False) ⟨rfl, rfl, rfl, by simp, fun k hk _ => Below.heap_alloc _ _ _ hk⟩ (fun _ _ f => f.elim)
theorem Only.setCell {S : Nat → Prop} {a w : World} (h : Only S a w) {p : Addr} (hp : S p.block ∨ a.heap.size ≤ p.block) (u : Value) : Only S a (w.setCell p u) :=
  h.trans' (S' := fun k => k = p.block) ⟨rfl, rfl, rfl, by simp [World.setCell], fun k _ hn => Below.heap_setCell _ _ _ _ hn⟩ (fun i hi e => by subst e; rcases hp with hp | hp; exact hp; omega)
theorem Only.grown {S : Nat → Prop} {a w w' : World} {row : Option Nat} (h : Only S a w) (hg : w.grownBy w' row) (hr : ∀ k, row = some k → S k ∨ a.heap.size ≤ k) : Only S a w' :=
  h.trans' (S' := fun k => row = some k) ⟨hg.os, hg.tape, hg.output, hg.size, fun k hk hn => hg.block k hk (fun e => hn e.symm)⟩ (fun i hi e => by rcases hr i e with h | h; exact h; omega)
theorem Only.below {B : Nat} {w w' : World} (h : Below B w w') : Only (fun k => B ≤ k) w w' := ⟨h.os, h.tape, h.output, h.size, fun k _ hn => h.block k (by omega)⟩
theorem Only.toBelow {S : Nat → Prop} {B : Nat} {w w' : World} (h : Only S w w') (hB : B ≤ w.heap.size) (hs : ∀ k, k < B → ¬ S k) : Below B w w' :=
  ⟨h.os, h.tape, h.output, h.size, fun k hk => h.block k (by omega) (hs k hk)⟩
theorem Only.heap {S : Nat → Prop} {w w' : World} (h : Only S w w') {k : Nat} {o : Obj} (ho : w.heap[k]? = some o) (hn : ¬ S k) : w'.heap[k]? = some o :=
  (h.block k (lt_of_block ho) hn).trans ho
theorem Only.cell {S : Nat → Prop} {w w' : World} (h : Only S w w') {p : Addr} {v : Value} (hv : w.cell? p = some v) (hn : ¬ S p.block) : w'.cell? p = some v :=
  (World.cell?_of_block (h.block p.block (World.block_lt_of_cell? w p hv) hn)).trans hv

theorem Only.world {S : Nat → Prop} {a b : World} (h : Only S a b) : Only S a b.drew := h.drew

/-- A slice value whose cells (size cells an element) lie in blocks of D. -/
def SliceAt (D : Nat → Prop) (w : World) (v : Value) (size : Nat) (cs : List Value) : Prop :=
  ∃ a len cap, v = .slice a len cap ∧ cs.length = len * size ∧ len ≤ cap ∧ cap ≤ maxLen ∧
    (0 < len → ∃ b off, a = some ⟨b, off, none⟩ ∧ D b ∧ ∀ j u, cs[j]? = some u → w.cell? ⟨b, off + j, none⟩ = some u)

theorem SliceAt.keep {D S : Nat → Prop} {w w' : World} {v : Value} {size : Nat} {cs : List Value} (h : SliceAt D w v size cs) (ho : Only S w w') (hd : ∀ k, k < w.heap.size → D k → ¬ S k) (hz : 0 < size) : SliceAt D w' v size cs := by
  obtain ⟨a, len, cap, hv, hl, hlc, hm, hc⟩ := h
  refine ⟨a, len, cap, hv, hl, hlc, hm, fun hp => ?_⟩
  obtain ⟨b, off, ha, hD, hcell⟩ := hc hp
  refine ⟨b, off, ha, hD, fun j u hu => ho.cell (hcell j u hu) (hd b ?_ hD)⟩
  exact World.block_lt_of_cell? w _ (hcell j u hu)
theorem SliceAt.dom {D D' : Nat → Prop} {w : World} {v : Value} {size : Nat} {cs : List Value} (h : SliceAt D w v size cs) (hd : ∀ k, k < w.heap.size → D k → D' k) (hs : 0 < size) : SliceAt D' w v size cs := by
  obtain ⟨a, len, cap, hv, hl, hlc, hm, hc⟩ := h
  refine ⟨a, len, cap, hv, hl, hlc, hm, fun hp => ?_⟩
  obtain ⟨b, off, ha, hD, hcell⟩ := hc hp
  refine ⟨b, off, ha, hd b ?_ hD, hcell⟩
  have h0 : 0 < cs.length := by rw [hl]; exact Nat.mul_pos hp hs
  exact World.block_lt_of_cell? w _ (hcell 0 cs[0] (by simp [h0]))

/-- The shapes of what is put into a heap. -/
inductive Sh where
  | num (k : IntKind)
  | bool
  | text
  | agg (fs : List Sh)
  | list (e : Sh)

mutual
def Sh.size : Sh → Nat
  | .num _ => 1
  | .bool => 1
  | .text => 1
  | .agg fs => Sh.sizes fs
  | .list _ => 1
def Sh.sizes : List Sh → Nat
  | [] => 0
  | s :: r => s.size + Sh.sizes r
end

/-- 'These cells hold a value of this shape, of which these numbers and these strings are put.' -/
inductive Enc (D : Nat → Prop) (w : World) : Sh → List Value → List Int → List ByteArray → Prop where
  | num (k : IntKind) (n : Int) : Enc D w (.num k) [.int k n] [n] []
  | bool (b : Bool) : Enc D w .bool [.bool b] [if b then 1 else 0] []
  | text (s : ByteArray) : Enc D w .text [.string s] [] [s]
  | nil : Enc D w (.agg []) [] [] []
  | cons {s : Sh} {fs : List Sh} {c1 c2 : List Value} {n1 n2 : List Int} {t1 t2 : List ByteArray} : Enc D w s c1 n1 t1 → Enc D w (.agg fs) c2 n2 t2 → Enc D w (.agg (s :: fs)) (c1 ++ c2) (n1 ++ n2) (t1 ++ t2)
  | list {e : Sh} {v : Value} (rows : List (List Value × List Int × List ByteArray)) : SliceAt D w v e.size (rows.flatMap (·.1)) → 0 < e.size →
      (∀ r, r ∈ rows → r.1.length = e.size) → (∀ r, r ∈ rows → Enc D w e r.1 r.2.1 r.2.2) → Enc D w (.list e) [v] ((rows.length : Int) :: rows.flatMap (·.2.1)) (rows.flatMap (·.2.2))

theorem Enc.keep {D S : Nat → Prop} {w w' : World} (ho : Only S w w') (hd : ∀ k, k < w.heap.size → D k → ¬ S k) {s : Sh} {cs : List Value} {ns : List Int} {ts : List ByteArray} (h : Enc D w s cs ns ts) : Enc D w' s cs ns ts := by
  induction h with
  | num k n => exact .num k n
  | bool b => exact .bool b
  | text s => exact .text s
  | nil => exact .nil
  | cons _ _ i1 i2 => exact .cons i1 i2
  | list rows hs hz hr _ ih => exact .list rows (hs.keep ho hd hz) hz hr ih

theorem flat_length {α β : Type} (f : α → List β) (n : Nat) (l : List α) (h : ∀ r, r ∈ l → (f r).length = n) : (l.flatMap f).length = l.length * n := by
  induction l with
  | nil => simp
  | cons x r ih => simp only [List.flatMap_cons, List.length_append, List.length_cons]; rw [h x (by simp), ih (fun r hr => h r (by simp [hr])), Nat.succ_mul]; omega
theorem flat_get {α β : Type} (f : α → List β) (n : Nat) (l : List α) (h : ∀ r, r ∈ l → (f r).length = n) (k j : Nat) (hk : k < l.length) (hj : j < n) : (l.flatMap f)[k * n + j]? = (f l[k])[j]? := by
  induction l generalizing k with
  | nil => simp at hk
  | cons x r ih =>
    have hx := h x (by simp)
    cases k with
    | zero => simp only [List.flatMap_cons, Nat.zero_mul, Nat.zero_add, List.getElem_cons_zero]; rw [List.getElem?_append_left (by omega)]
    | succ k =>
      simp only [List.flatMap_cons, List.getElem_cons_succ]
      rw [List.getElem?_append_right (by rw [hx, Nat.succ_mul]; omega), hx, ← ih (fun r hr => h r (by simp [hr])) k (by simpa using hk)]
      congr 1; rw [Nat.succ_mul]; omega

/-- A list that is put, opened. -/
theorem Enc.open_list {D : Nat → Prop} {w : World} {e : Sh} {v : Value} {ns : List Int} {ss : List ByteArray} (h : Enc D w (.list e) [v] ns ss) :
    ∃ (a : Option Addr) (len cap : Nat) (rows : List (List Value × List Int × List ByteArray)), v = .slice a len cap ∧ rows.length = len ∧ len ≤ 9223372036854775807 ∧ ns = (len : Int) :: rows.flatMap (fun r : List Value × List Int × List ByteArray => r.2.1) ∧ ss = rows.flatMap (fun r => r.2.2) ∧
      ∀ k r, rows[k]? = some r → ∃ b off, a = some ⟨b, off, none⟩ ∧ D b ∧ b < w.heap.size ∧ r.1.length = e.size ∧ Enc D w e r.1 r.2.1 r.2.2 ∧ ∀ j u, r.1[j]? = some u → w.cell? ⟨b, off + k * e.size + j, none⟩ = some u := by
  cases h with | list rows hs hz hr1 hr2 =>
  obtain ⟨a, len, cap, rfl, hl, hlc, hm, hc⟩ := hs
  have hfl := flat_length (fun r : List Value × List Int × List ByteArray => r.1) e.size rows hr1
  have hlen : rows.length = len := by rw [hl] at hfl; exact Nat.eq_of_mul_eq_mul_right hz hfl.symm
  refine ⟨a, len, cap, rows, rfl, hlen, by unfold maxLen at hm; omega, by rw [hlen], rfl, fun k r hk => ?_⟩
  obtain ⟨hk', rfl⟩ := List.getElem?_eq_some_iff.1 hk
  obtain ⟨b, off, ha, hD, hcell⟩ := hc (by omega)
  have hmem : rows[k] ∈ rows := List.getElem_mem hk'
  have hcell' : ∀ j u, rows[k].1[j]? = some u → w.cell? ⟨b, off + k * e.size + j, none⟩ = some u := fun j u hu => by
    have hj : j < e.size := by rw [← hr1 _ hmem]; exact (List.getElem?_eq_some_iff.1 hu).1
    rw [Nat.add_assoc]
    exact hcell _ u ((flat_get (fun r : List Value × List Int × List ByteArray => r.1) e.size rows hr1 k j hk' hj).trans hu)
  refine ⟨b, off, ha, hD, ?_, hr1 _ hmem, hr2 _ hmem, hcell'⟩
  have h0 : 0 < rows[k].1.length := by rw [hr1 _ hmem]; exact hz
  exact World.block_lt_of_cell? w _ (hcell' 0 _ (List.getElem?_eq_getElem h0))

theorem take_flat {α β : Type} (f : α → List β) (l : List α) (k : Nat) (r : α) (h : l[k]? = some r) : (l.take (k + 1)).flatMap f = (l.take k).flatMap f ++ f r := by
  rw [List.take_add_one, h, List.flatMap_append]; simp

theorem Enc.len {D : Nat → Prop} {w : World} {s : Sh} {cs : List Value} {ns : List Int} {ss : List ByteArray} (h : Enc D w s cs ns ss) : cs.length = s.size := by
  induction h with
  | num | bool | text | list => rfl
  | nil => rfl
  | cons _ _ i1 i2 => simp only [List.length_append, Sh.size, Sh.sizes] at *; omega
theorem Enc.open_cons {D : Nat → Prop} {w : World} {s : Sh} {fs : List Sh} {cs : List Value} {ns : List Int} {ss : List ByteArray} (h : Enc D w (.agg (s :: fs)) cs ns ss) :
    ∃ c1 c2 n1 n2 t1 t2, cs = c1 ++ c2 ∧ ns = n1 ++ n2 ∧ ss = t1 ++ t2 ∧ Enc D w s c1 n1 t1 ∧ Enc D w (.agg fs) c2 n2 t2 := by
  cases h with | cons h1 h2 => exact ⟨_, _, _, _, _, _, rfl, rfl, rfl, h1, h2⟩
theorem Enc.split {D : Nat → Prop} {w : World} {s : Sh} {fs : List Sh} {l1 l2 : List Value} {ns : List Int} {ss : List ByteArray} (h : Enc D w (.agg (s :: fs)) (l1 ++ l2) ns ss) (hl : l1.length = s.size) :
    ∃ n1 n2 t1 t2, ns = n1 ++ n2 ∧ ss = t1 ++ t2 ∧ Enc D w s l1 n1 t1 ∧ Enc D w (.agg fs) l2 n2 t2 := by
  obtain ⟨c1, c2, n1, n2, t1, t2, hc, hn, ht, h1, h2⟩ := h.open_cons
  obtain ⟨rfl, rfl⟩ := List.append_inj hc (hl.trans h1.len.symm)
  exact ⟨n1, n2, t1, t2, hn, ht, h1, h2⟩
theorem Enc.open_nil {D : Nat → Prop} {w : World} {cs : List Value} {ns : List Int} {ss : List ByteArray} (h : Enc D w (.agg []) cs ns ss) : cs = [] ∧ ns = [] ∧ ss = [] := by
  cases h; exact ⟨rfl, rfl, rfl⟩
theorem Enc.open_num' {D : Nat → Prop} {w : World} {k : IntKind} {cs : List Value} {ns : List Int} {ss : List ByteArray} (h : Enc D w (.num k) cs ns ss) : ∃ n, cs = [.int k n] ∧ ns = [n] ∧ ss = [] := by
  cases h; exact ⟨_, rfl, rfl, rfl⟩
theorem Enc.open_num {D : Nat → Prop} {w : World} {k : IntKind} {c : Value} {ns : List Int} {ss : List ByteArray} (h : Enc D w (.num k) [c] ns ss) : ∃ n, c = .int k n ∧ ns = [n] ∧ ss = [] := by
  obtain ⟨n, hc, hn, hs⟩ := h.open_num'; simp at hc; exact ⟨n, hc, hn, hs⟩
theorem Enc.open_bool' {D : Nat → Prop} {w : World} {cs : List Value} {ns : List Int} {ss : List ByteArray} (h : Enc D w .bool cs ns ss) : ∃ b : Bool, cs = [.bool b] ∧ ns = [if b then 1 else 0] ∧ ss = [] := by
  cases h; exact ⟨_, rfl, rfl, rfl⟩
theorem Enc.open_bool {D : Nat → Prop} {w : World} {c : Value} {ns : List Int} {ss : List ByteArray} (h : Enc D w .bool [c] ns ss) : ∃ b : Bool, c = .bool b ∧ ns = [if b then 1 else 0] ∧ ss = [] := by
  obtain ⟨n, hc, hn, hs⟩ := h.open_bool'; simp at hc; exact ⟨n, hc, hn, hs⟩
theorem Enc.open_text' {D : Nat → Prop} {w : World} {cs : List Value} {ns : List Int} {ss : List ByteArray} (h : Enc D w .text cs ns ss) : ∃ s, cs = [.string s] ∧ ns = [] ∧ ss = [s] := by
  cases h; exact ⟨_, rfl, rfl, rfl⟩
theorem Enc.open_text {D : Nat → Prop} {w : World} {c : Value} {ns : List Int} {ss : List ByteArray} (h : Enc D w .text [c] ns ss) : ∃ s, c = .string s ∧ ns = [] ∧ ss = [s] := by
  obtain ⟨n, hc, hn, hs⟩ := h.open_text'; simp at hc; exact ⟨n, hc, hn, hs⟩

theorem SliceAt.fresh {D : Nat → Prop} {w : World} {v : Value} {size : Nat} {cs : List Value} (h : SliceAt D w v size cs) (hs : 0 < size) : SliceAt (fun k => D k ∧ k < w.heap.size) w v size cs :=
  h.dom (fun _ hk hd => ⟨hd, hk⟩) hs
theorem Enc.dom {D D' : Nat → Prop} {w : World} (hd : ∀ k, k < w.heap.size → D k → D' k) {s : Sh} {cs : List Value} {ns : List Int} {ts : List ByteArray} (h : Enc D w s cs ns ts) : Enc D' w s cs ns ts := by
  induction h with
  | num k n => exact .num k n
  | bool b => exact .bool b
  | text s => exact .text s
  | nil => exact .nil
  | cons _ _ i1 i2 => exact .cons i1 i2
  | list rows hs hz hr _ ih => exact .list rows (hs.dom hd hz) hz hr ih
theorem Enc.fresh {D : Nat → Prop} {w : World} {s : Sh} {cs : List Value} {ns : List Int} {ts : List ByteArray} (h : Enc D w s cs ns ts) : Enc (fun k => D k ∧ k < w.heap.size) w s cs ns ts :=
  h.dom (fun _ hk hd => ⟨hd, hk⟩)

/-- Room for so many numbers and strings. -/
def Room (ns : List Int) (ss : List ByteArray) : Prop := ns.length ≤ 1099511627776 ∧ ss.length ≤ 1099511627776
theorem Room.left {a b : List Int} {c d : List ByteArray} (h : Room (a ++ b) (c ++ d)) : Room a c := by
  have h1 := h.1; have h2 := h.2; simp only [List.length_append] at h1 h2; exact ⟨by omega, by omega⟩
theorem Room.first {n a b : List Int} {t c d : List ByteArray} (h : Room (n ++ (a ++ b)) (t ++ (c ++ d))) : Room (n ++ a) (t ++ c) := by
  rw [← List.append_assoc, ← List.append_assoc] at h; exact h.left
theorem Room.next {n a b : List Int} {t c d : List ByteArray} (h : Room (n ++ (a ++ b)) (t ++ (c ++ d))) : Room ((n ++ a) ++ b) ((t ++ c) ++ d) := by
  rw [← List.append_assoc, ← List.append_assoc] at h; exact h
theorem Room.take {ns : List Int} {ss : List ByteArray} (rows : List (List Value × List Int × List ByteArray)) {l : Int} (k : Nat) (hn : Room (ns ++ (l :: rows.flatMap (fun r => r.2.1))) (ss ++ rows.flatMap (fun r => r.2.2))) :
    Room (ns ++ (l :: (rows.take k).flatMap (fun r => r.2.1))) (ss ++ (rows.take k).flatMap (fun r => r.2.2)) := by
  have h1 : ((rows.take k).flatMap (fun r => r.2.1)).length ≤ (rows.flatMap (fun r => r.2.1)).length := by
    conv => rhs; rw [← List.take_append_drop k rows, List.flatMap_append, List.length_append]
    omega
  have h2 : ((rows.take k).flatMap (fun r => r.2.2)).length ≤ (rows.flatMap (fun r => r.2.2)).length := by
    conv => rhs; rw [← List.take_append_drop k rows, List.flatMap_append, List.length_append]
    omega
  have := hn.1; have := hn.2
  simp only [List.length_append, List.length_cons] at *
  exact ⟨by simp only [List.length_append, List.length_cons]; omega, by simp only [List.length_append]; omega⟩

/-- A row that a call owns, as a slice that is read. -/
theorem ownsRow_slice {w : World} {base : Nat} {e : TypeId} {v : Value} {n : Nat} {xs : List Value} (h : w.ownsRow base e 1 v n xs) : SliceAt (fun k => v.ownBlock = some k) w v 1 xs := by
  obtain ⟨hl, h2⟩ := h
  rcases h2 with ⟨rfl, rfl⟩ | ⟨g, cap, cur, rfl, hb, hg, hn, hm, hcur, htake⟩
  · exact ⟨none, 0, 0, rfl, hl, Nat.le_refl _, Nat.zero_le _, fun h => absurd h (by omega)⟩
  · refine ⟨_, n, cap, rfl, hl, hn, hm, fun _ => ⟨g, 0, rfl, rfl, fun j u hu => ?_⟩⟩
    rw [Nat.zero_add, cell_of_row w g j cur e (0, 0) hg]
    rw [← htake, List.getElem?_take] at hu
    split at hu
    · simpa using hu
    · cases hu
theorem SliceAt.ints {D : Nat → Prop} {w : World} {v : Value} {ns : List Int} {k : IntKind} (h : SliceAt D w v 1 (ns.map (.int k))) :
    ∃ a len cap, v = .slice a len cap ∧ len = ns.length ∧ len ≤ cap ∧ len ≤ 9223372036854775807 ∧ ∀ i, i < len → ∃ b off, a = some ⟨b, off, none⟩ ∧ D b ∧ w.cell? ⟨b, off + i, none⟩ = some (.int k (ns[i]?.getD 0)) := by
  obtain ⟨a, len, cap, rfl, hl, hlc, hm, hc⟩ := h
  refine ⟨a, len, cap, rfl, by simpa using hl.symm, hlc, by unfold maxLen at hm; omega, fun i hi => ?_⟩
  obtain ⟨b, off, ha, hD, hcell⟩ := hc (by omega)
  have hi' : i < ns.length := by simp at hl; omega
  exact ⟨b, off, ha, hD, hcell i _ (by simp [List.getElem?_eq_getElem hi'])⟩
theorem SliceAt.texts {D : Nat → Prop} {w : World} {v : Value} {ss : List ByteArray} (h : SliceAt D w v 1 (ss.map .string)) :
    ∃ a len cap, v = .slice a len cap ∧ len = ss.length ∧ len ≤ cap ∧ len ≤ 9223372036854775807 ∧ ∀ i, i < len → ∃ b off, a = some ⟨b, off, none⟩ ∧ D b ∧ w.cell? ⟨b, off + i, none⟩ = some (.string (ss[i]?.getD ByteArray.empty)) := by
  obtain ⟨a, len, cap, rfl, hl, hlc, hm, hc⟩ := h
  refine ⟨a, len, cap, rfl, by simpa using hl.symm, hlc, by unfold maxLen at hm; omega, fun i hi => ?_⟩
  obtain ⟨b, off, ha, hD, hcell⟩ := hc (by omega)
  have hi' : i < ss.length := by simp at hl; omega
  exact ⟨b, off, ha, hD, hcell i _ (by simp [List.getElem?_eq_getElem hi'])⟩

end Go.Proofs.Ythnjfekkngpbjaa

/- What the put functions of the statement do to a heap of numbers and strings. -/
namespace Go.Proofs.Ythnjfekkngpbjaa
open Go.RowKit

theorem infoInt : (Try.prog.info? 3).map (fun i => (i.zero, i.size, i.bytes)) = some (some (.int .i64 0), 1, 8) := by kernel_rfl
theorem infoStr : (Try.prog.info? 9).map (fun i => (i.zero, i.size, i.bytes)) = some (some (.string ByteArray.empty), 1, 16) := by kernel_rfl

def HeapIs (hb : Nat) (w : World) (ns : List Int) (ss : List ByteArray) : Prop :=
  ∃ vn vs, w.heap[hb]? = some (.cells #[vn, vs] 36 (0, 0)) ∧ w.ownsRow 0 3 1 vn ns.length (ns.map (.int .i64)) ∧ w.ownsRow 0 9 1 vs ss.length (ss.map .string)

/-- The blocks of a heap. -/
def InHeap (hb : Nat) (w : World) (k : Nat) : Prop :=
  k = hb ∨ ∃ vn vs, w.heap[hb]? = some (.cells #[vn, vs] 36 (0, 0)) ∧ (vn.ownBlock = some k ∨ vs.ownBlock = some k)

structure Step (hb : Nat) (w w' : World) : Prop where
  only : Only (InHeap hb w) w w'
  rows : ∀ k, InHeap hb w' k → InHeap hb w k ∨ w.heap.size ≤ k

theorem Step.refl (hb : Nat) (w : World) : Step hb w w := ⟨Only.refl _ _, fun _ h => .inl h⟩
theorem Step.trans {hb : Nat} {a b c : World} (h : Step hb a b) (k : Step hb b c) : Step hb a c :=
  ⟨h.only.trans' k.only (fun i hi hx => by rcases h.rows i hx with h | h; exact h; omega),
   fun i hi => by
    rcases k.rows i hi with h1 | h1
    · exact h.rows i h1
    · have := h.only.size; right; omega⟩
theorem Step.alloc {hb : Nat} {a w : World} (h : Step hb a w) (hlt : hb < w.heap.size) (o : Obj) : Step hb a (w.alloc o) :=
  h.trans ⟨(Only.refl _ _).alloc o, fun k hk => by
    rcases hk with rfl | ⟨vn, vs, hh, hk⟩
    · exact .inl (.inl rfl)
    · rw [Below.heap_alloc w o hb hlt] at hh; exact .inl (.inr ⟨vn, vs, hh, hk⟩)⟩
theorem Step.drew {hb : Nat} {a w : World} (h : Step hb a w) : Step hb a w.drew := ⟨h.only.drew, h.rows⟩
theorem Step.drewN {hb : Nat} {a w : World} (h : Step hb a w) (n : Nat) : Step hb a (w.drewN n) := ⟨h.only.drewN n, h.rows⟩

theorem HeapIs.lt {hb : Nat} {w : World} {ns : List Int} {ss : List ByteArray} (h : HeapIs hb w ns ss) : hb < w.heap.size := by
  obtain ⟨vn, vs, hh, _⟩ := h; exact lt_of_block hh
theorem InHeap.lt {hb : Nat} {w : World} {ns : List Int} {ss : List ByteArray} (h : HeapIs hb w ns ss) {k : Nat} (hk : InHeap hb w k) : k < w.heap.size := by
  obtain ⟨vn, vs, hh, hN, hS⟩ := h
  rcases hk with rfl | ⟨vn', vs', hh', hk⟩
  · exact lt_of_block hh
  · rw [hh] at hh'; simp at hh'; obtain ⟨rfl, rfl⟩ := hh'
    rcases hk with hk | hk
    · exact (hN.lt k hk).2
    · exact (hS.lt k hk).2
theorem HeapIs.alloc {hb : Nat} {w : World} {ns : List Int} {ss : List ByteArray} (h : HeapIs hb w ns ss) (o : Obj) : HeapIs hb (w.alloc o) ns ss := by
  obtain ⟨vn, vs, hh, hN, hS⟩ := h
  exact ⟨vn, vs, (Below.heap_alloc w o hb (lt_of_block hh)).trans hh, hN.alloc o, hS.alloc o⟩
/-- What lies apart from a heap may be turned. -/
theorem HeapIs.keep {hb : Nat} {w w' : World} {S : Nat → Prop} {ns : List Int} {ss : List ByteArray} (h : HeapIs hb w ns ss) (ho : Only S w w') (hs : ∀ k, InHeap hb w k → ¬ S k) : HeapIs hb w' ns ss := by
  obtain ⟨vn, vs, hh, hN, hS⟩ := h
  have hkeep : ∀ (e : TypeId) (v : Value) (n : Nat) (xs : List Value), (∀ k, v.ownBlock = some k → ¬ S k) → w.ownsRow 0 e 1 v n xs → w'.ownsRow 0 e 1 v n xs := by
    intro e v n xs hv hr
    refine ⟨hr.1, ?_⟩
    rcases hr.2 with hn | ⟨g, cap, cur, rfl, hb, hg, rest⟩
    · exact .inl hn
    · exact .inr ⟨g, cap, cur, rfl, hb, ho.heap hg (hv g rfl), rest⟩
  exact ⟨vn, vs, ho.heap hh (hs hb (.inl rfl)), hkeep _ _ _ _ (fun k hk => hs k (.inr ⟨vn, vs, hh, .inl hk⟩)) hN, hkeep _ _ _ _ (fun k hk => hs k (.inr ⟨vn, vs, hh, .inr hk⟩)) hS⟩

theorem heap_cells {w : World} {hb : Nat} {vn vs : Value} (h : w.heap[hb]? = some (.cells #[vn, vs] 36 (0, 0))) :
    w.cell? ⟨hb, 0, none⟩ = some vn ∧ w.cell? ⟨hb, 1, none⟩ = some vs ∧ w.frozen? ⟨hb, 0, none⟩ = false ∧ w.frozen? ⟨hb, 1, none⟩ = false := by
  simp [World.cell?, World.frozen?, h]

theorem row_ne {w : World} {hb : Nat} {cs : Array Value} {t e : TypeId} {v : Value} {n : Nat} {xs : List Value} (hh : w.heap[hb]? = some (.cells cs t (0, 0))) (hN : w.ownsRow 0 e 1 v n xs) (hte : t ≠ e) : v.ownBlock ≠ some hb := by
  intro he
  rcases hN.2 with ⟨rfl, _⟩ | ⟨g, cap, cur, rfl, _, hg', _⟩
  · simp [Value.ownBlock] at he
  · simp only [Value.ownBlock, Option.some.injEq] at he; subst he; rw [hh] at hg'; simp at hg'; exact hte hg'.2
theorem rows_ne {w : World} {e e' : TypeId} {v v' : Value} {n n' : Nat} {xs xs' : List Value} (hN : w.ownsRow 0 e 1 v n xs) (hS : w.ownsRow 0 e' 1 v' n' xs') (hte : e ≠ e') : v'.ownBlock = none ∨ v'.ownBlock ≠ v.ownBlock := by
  rcases hS.2 with ⟨rfl, _⟩ | ⟨g, cap, cur, rfl, _, hg', _⟩
  · exact .inl rfl
  · refine .inr fun he => ?_
    exact row_ne hg' hN (fun h => hte h.symm) he.symm

/-- Behind an append on one of the two lists, and the store of the slice: the heap, and what was left alone. -/
theorem heap_num {hb : Nat} {w w1 : World} {o : Obj} {vn vs v' : Value} {x : Int} {ns : List Int} {ss : List ByteArray}
    (hh : w.heap[hb]? = some (.cells #[vn, vs] 36 (0, 0))) (hN : w.ownsRow 0 3 1 vn ns.length (ns.map (.int .i64))) (hS : w.ownsRow 0 9 1 vs ss.length (ss.map .string))
    (h1 : w1.ownsRow 0 3 1 v' (ns.length + 1) (ns.map (.int .i64) ++ [.int .i64 x])) (hg : (w.alloc o).grownBy w1 vn.ownBlock) (hat : v'.ownBlock = vn.ownBlock ∨ v'.ownBlock = some (w.heap.size + 1)) :
    w1.heap[hb]? = some (.cells #[vn, vs] 36 (0, 0)) ∧ Step hb w (w1.setCell ⟨hb, 0, none⟩ v') ∧ HeapIs hb (w1.setCell ⟨hb, 0, none⟩ v') (ns ++ [x]) ss := by
  have hbl := lt_of_block hh
  have hne := row_ne hh hN (by decide)
  have hne2 := rows_ne hN hS (by decide)
  have hh0 : (w.alloc o).heap[hb]? = some (.cells #[vn, vs] 36 (0, 0)) := (Below.heap_alloc w o hb hbl).trans hh
  have hh1 : w1.heap[hb]? = some (.cells #[vn, vs] 36 (0, 0)) := (hg.block hb (by simp; omega) (fun e => hne e.symm)).trans hh0
  have hS1 : w1.ownsRow 0 9 1 vs ss.length (ss.map .string) := (hS.alloc o).kept hg hne2
  have hsame := heap_setCell_same w1 hb 0 #[vn, vs] 36 v' hh1
  have hO : Only (InHeap hb w) w (w1.setCell ⟨hb, 0, none⟩ v') :=
    (((Only.refl _ w).alloc o).grown hg (fun k hk => .inl (.inr ⟨vn, vs, hh, .inl hk⟩))).setCell (.inl (.inl rfl)) _
  refine ⟨hh1, ⟨hO, fun k hk => ?_⟩, v', vs, by simpa using hsame, ?_, ?_⟩
  · rcases hk with rfl | ⟨vn', vs', hh', hk⟩
    · exact .inl (.inl rfl)
    · rw [hsame] at hh'; simp at hh'; obtain ⟨rfl, rfl⟩ := hh'
      rcases hk with hk | hk
      · rcases hat with hat | hat
        · exact .inl (.inr ⟨vn, vs, hh, .inl (hat.symm.trans hk)⟩)
        · right; rw [hat] at hk; simp at hk; omega
      · exact .inl (.inr ⟨vn, vs, hh, .inr hk⟩)
  · exact ownsRow_setCell_other (by simpa using h1) (row_ne hh1 h1 (by decide)) _
  · exact ownsRow_setCell_other hS1 (row_ne hh1 hS1 (by decide)) _
theorem heap_text {hb : Nat} {w w1 : World} {o : Obj} {vn vs v' : Value} {x : ByteArray} {ns : List Int} {ss : List ByteArray}
    (hh : w.heap[hb]? = some (.cells #[vn, vs] 36 (0, 0))) (hN : w.ownsRow 0 3 1 vn ns.length (ns.map (.int .i64))) (hS : w.ownsRow 0 9 1 vs ss.length (ss.map .string))
    (h1 : w1.ownsRow 0 9 1 v' (ss.length + 1) (ss.map .string ++ [.string x])) (hg : (w.alloc o).grownBy w1 vs.ownBlock) (hat : v'.ownBlock = vs.ownBlock ∨ v'.ownBlock = some (w.heap.size + 1)) :
    w1.heap[hb]? = some (.cells #[vn, vs] 36 (0, 0)) ∧ Step hb w (w1.setCell ⟨hb, 1, none⟩ v') ∧ HeapIs hb (w1.setCell ⟨hb, 1, none⟩ v') ns (ss ++ [x]) := by
  have hbl := lt_of_block hh
  have hne := row_ne hh hS (by decide)
  have hne2 := rows_ne hS hN (by decide)
  have hh0 : (w.alloc o).heap[hb]? = some (.cells #[vn, vs] 36 (0, 0)) := (Below.heap_alloc w o hb hbl).trans hh
  have hh1 : w1.heap[hb]? = some (.cells #[vn, vs] 36 (0, 0)) := (hg.block hb (by simp; omega) (fun e => hne e.symm)).trans hh0
  have hN1 : w1.ownsRow 0 3 1 vn ns.length (ns.map (.int .i64)) := (hN.alloc o).kept hg hne2
  have hsame := heap_setCell_same w1 hb 1 #[vn, vs] 36 v' hh1
  have hO : Only (InHeap hb w) w (w1.setCell ⟨hb, 1, none⟩ v') :=
    (((Only.refl _ w).alloc o).grown hg (fun k hk => .inl (.inr ⟨vn, vs, hh, .inr hk⟩))).setCell (.inl (.inl rfl)) _
  refine ⟨hh1, ⟨hO, fun k hk => ?_⟩, vn, v', by simpa using hsame, ?_, ?_⟩
  · rcases hk with rfl | ⟨vn', vs', hh', hk⟩
    · exact .inl (.inl rfl)
    · rw [hsame] at hh'; simp at hh'; obtain ⟨rfl, rfl⟩ := hh'
      rcases hk with hk | hk
      · exact .inl (.inr ⟨vn, vs, hh, .inl hk⟩)
      · rcases hat with hat | hat
        · exact .inl (.inr ⟨vn, vs, hh, .inr (hat.symm.trans hk)⟩)
        · right; rw [hat] at hk; simp at hk; omega
  · exact ownsRow_setCell_other hN1 (row_ne hh1 hN1 (by decide)) _
  · exact ownsRow_setCell_other (by simpa using h1) (row_ne hh1 h1 (by decide)) _

def Put (hb : Nat) (w : World) (ns : List Int) (ss : List ByteArray) (e : Ending) (w' : World) : Prop :=
  e = .returned (.tuple #[]) ∧ HeapIs hb w' ns ss ∧ Step hb w w'

/-- What a loop that puts a list has put, when k rows are over. -/
def PutRows (hb : Nat) (w : World) (ns : List Int) (ss : List ByteArray) (len : Nat) (rows : List (List Value × List Int × List ByteArray)) (k : Nat) (wr : World) : Prop :=
  HeapIs hb wr (ns ++ ((len : Int) :: (rows.take k).flatMap (fun r => r.2.1))) (ss ++ (rows.take k).flatMap (fun r => r.2.2)) ∧ Step hb w wr
theorem in_alloc {hb : Nat} {w : World} {o : Obj} (hlt : hb < w.heap.size) {k : Nat} (h : InHeap hb (w.alloc o) k) : InHeap hb w k := by
  rcases h with rfl | ⟨vn, vs, hh, hk⟩
  · exact .inl rfl
  · rw [Below.heap_alloc w o hb hlt] at hh; exact .inr ⟨vn, vs, hh, hk⟩
theorem not_box {hb : Nat} {w : World} {ns : List Int} {ss : List ByteArray} (hH : HeapIs hb w ns ss) (o : Obj) : ¬ InHeap hb (w.alloc o) w.heap.size := fun h => by
  have := InHeap.lt hH (in_alloc hH.lt h); omega
theorem Step.apart {hb : Nat} {w w' : World} {D : Nat → Prop} (h : Step hb w w') (hD : ∀ k, D k → ¬ InHeap hb w k) (hlt : ∀ k, D k → k < w.heap.size) : ∀ k, D k → ¬ InHeap hb w' k := fun k hk hi => by
  rcases h.rows k hi with h' | h'
  · exact hD k hk h'
  · have := hlt k hk; omega
theorem len_1 {α : Type} {l : List α} (h : l.length = 1) : ∃ x0, l = [x0] := by
  match l, h with
  | [x0], _ => exact ⟨x0, rfl⟩
theorem len_2 {α : Type} {l : List α} (h : l.length = 2) : ∃ x0 x1, l = [x0, x1] := by
  match l, h with
  | [x0, x1], _ => exact ⟨x0, x1, rfl⟩
theorem len_4 {α : Type} {l : List α} (h : l.length = 4) : ∃ x0 x1 x2 x3, l = [x0, x1, x2, x3] := by
  match l, h with
  | [x0, x1, x2, x3], _ => exact ⟨x0, x1, x2, x3, rfl⟩

set_option maxHeartbeats 400000 in
set_option maxRecDepth 100000 in
theorem putInt64_any (hb : Nat) (c : Value) (D : Nat → Prop) (ns : List Int) (ss : List ByteArray) (ns' : List Int) (ss' : List ByteArray) (w : World) (hH : HeapIs hb w ns ss) (hD : ∀ k, D k → ¬ InHeap hb w k)
    (hE : Enc D w (.num .i64) [c] ns' ss') (hn : Room (ns ++ ns') (ss ++ ss')) :
    Calls Try.prog 46 #[.pointer (some ⟨hb, 0, none⟩), c] w (Put hb w (ns ++ ns') (ss ++ ss')) := by
  obtain ⟨x, rfl, rfl, rfl⟩ := hE.open_num
  obtain ⟨i0, hi, hz0, hz1, hz2⟩ := info_parts infoInt
  obtain ⟨vn, vs, hh, hN, hS⟩ := hH
  obtain ⟨c0, c1, f0, f1⟩ := heap_cells hh
  go_enter Try.func46, Try.ntmps46
  go_wp2_with (at_builtin; refine wpList_append_own_at _ rfl _ _ 33 rfl 0 3 i0 (.int .i64 0) 1 8 Try.underlying33 hi hz0 hz1 hz2 rfl (by decide) _ _ _ rfl (hN.alloc _) ⟨w.heap.size, 0, none⟩ 1 1 [.int .i64 x] rfl rfl (cell_one_new _ _ _) ?c2 ?c3 ?c4 ?c5 ?_)
  case c2 => simp [Value.oneCell']
  case c3 => have := hn.1; simp at this; unfold maxLen; omega
  case c4 => have := hn.1; simp at this; omega
  try (case c5 => omega)
  intro v' w1 hown' hgrow _ hat
  obtain ⟨hh1, hO, hH'⟩ := heap_num hh hN hS hown' hgrow hat
  obtain ⟨g', cap', rfl⟩ := ownsRow_succ hown'
  obtain ⟨d0, d1, e0, e1⟩ := heap_cells hh1
  clear hh hN hS c0 c1 f0 f1 hown' hgrow hat
  go_wp2
  go_end0
  exact ⟨rfl, by simpa using hH', hO⟩

set_option maxHeartbeats 1000000 in
set_option maxRecDepth 100000 in
theorem putRatio_any (hb : Nat) (c0 c1 : Value) (D : Nat → Prop) (ns : List Int) (ss : List ByteArray) (ns' : List Int) (ss' : List ByteArray) (w : World) (hH : HeapIs hb w ns ss) (hD : ∀ k, D k → ¬ InHeap hb w k)
    (hE : Enc D w (.agg [(.num .i64), (.num .i64)]) [c0, c1] ns' ss') (hn : Room (ns ++ ns') (ss ++ ss')) :
    Calls Try.prog 8 #[.pointer (some ⟨hb, 0, none⟩), .agg #[c0, c1]] w (Put hb w (ns ++ ns') (ss ++ ss')) := by
  obtain ⟨n0, m0, t0, u0, rfl, rfl, e0, r0⟩ := Enc.split (l1 := [c0]) (l2 := [c1]) hE rfl
  obtain ⟨n1, m1, t1, u1, rfl, rfl, e1, r1⟩ := Enc.split (l1 := [c1]) (l2 := []) r0 rfl
  obtain ⟨_, rfl, rfl⟩ := r1.open_nil
  have hlt := hH.lt
  have hbx := not_box hH (.cells #[c0, c1] 23)
  have hD0 : ∀ k, D k ∧ k < w.heap.size → ¬ InHeap hb (w.alloc (.cells #[c0, c1] 23)) k := fun k hk hi => hD k hk.1 (in_alloc hlt hi)
  have S0 : Step hb (w.alloc (.cells #[c0, c1] 23)) (w.alloc (.cells #[c0, c1] 23)) := Step.refl _ _
  have H0 := hH.alloc (.cells #[c0, c1] 23)
  have E0 := (e0.fresh).keep ((Only.refl (fun _ => False) w).alloc (.cells #[c0, c1] 23)) (fun _ _ _ hf => hf)
  have E1 := (e1.fresh).keep ((Only.refl (fun _ => False) w).alloc (.cells #[c0, c1] 23)) (fun _ _ _ hf => hf)
  have R0 := Lib.hid hn
  have R1 := Lib.hid (R0.out).next
  clear hE hn e0 r0 e1 r1
  go_enter Try.func8, Try.ntmps8
  go_wp2_with fail
  refine (putInt64_any hb c0 (fun k => D k ∧ k < w.heap.size) _ _ n0 t0 _ H0 (S0.apart hD0 (fun k hk => by have := hk.2; simp; omega)) (E0.keep S0.only (fun k _ hk => hD0 k hk)) (R0.out).first).mono ?_
  rintro e w1 ⟨rfl, H1, T1⟩
  have S1 := S0.trans T1
  have b1 := S1.only.cell (p := ⟨w.heap.size, 1, none⟩) (v := c1) (by simp) hbx
  go_wp2_with fail
  refine (putInt64_any hb c1 (fun k => D k ∧ k < w.heap.size) _ _ n1 t1 _ H1 (S1.apart hD0 (fun k hk => by have := hk.2; simp; omega)) (E1.keep S1.only (fun k _ hk => hD0 k hk)) (R1.out).first).mono ?_
  rintro e w2 ⟨rfl, H2, T2⟩
  have S2 := S1.trans T2
  go_wp2
  go_end0
  exact ⟨rfl, by simpa using H2, ((Step.refl hb w).alloc hlt _).trans S2⟩

set_option maxHeartbeats 400000 in
set_option maxRecDepth 100000 in
theorem putInt_any (hb : Nat) (c : Value) (D : Nat → Prop) (ns : List Int) (ss : List ByteArray) (ns' : List Int) (ss' : List ByteArray) (w : World) (hH : HeapIs hb w ns ss) (hD : ∀ k, D k → ¬ InHeap hb w k)
    (hE : Enc D w (.num .i64) [c] ns' ss') (hn : Room (ns ++ ns') (ss ++ ss')) :
    Calls Try.prog 41 #[.pointer (some ⟨hb, 0, none⟩), c] w (Put hb w (ns ++ ns') (ss ++ ss')) := by
  obtain ⟨x, rfl, rfl, rfl⟩ := hE.open_num
  obtain ⟨i0, hi, hz0, hz1, hz2⟩ := info_parts infoInt
  obtain ⟨vn, vs, hh, hN, hS⟩ := hH
  obtain ⟨c0, c1, f0, f1⟩ := heap_cells hh
  go_enter Try.func41, Try.ntmps41
  go_wp2_with (at_builtin; refine wpList_append_own_at _ rfl _ _ 33 rfl 0 3 i0 (.int .i64 0) 1 8 Try.underlying33 hi hz0 hz1 hz2 rfl (by decide) _ _ _ rfl (hN.alloc _) ⟨w.heap.size, 0, none⟩ 1 1 [.int .i64 x] rfl rfl (cell_one_new _ _ _) ?c2 ?c3 ?c4 ?c5 ?_)
  case c2 => simp [Value.oneCell']
  case c3 => have := hn.1; simp at this; unfold maxLen; omega
  case c4 => have := hn.1; simp at this; omega
  try (case c5 => omega)
  intro v' w1 hown' hgrow _ hat
  obtain ⟨hh1, hO, hH'⟩ := heap_num hh hN hS hown' hgrow hat
  obtain ⟨g', cap', rfl⟩ := ownsRow_succ hown'
  obtain ⟨d0, d1, e0, e1⟩ := heap_cells hh1
  clear hh hN hS c0 c1 f0 f1 hown' hgrow hat
  go_wp2
  go_end0
  exact ⟨rfl, by simpa using hH', hO⟩

set_option maxHeartbeats 1000000 in
set_option maxRecDepth 100000 in
theorem putRange_any (hb : Nat) (c0 c1 : Value) (D : Nat → Prop) (ns : List Int) (ss : List ByteArray) (ns' : List Int) (ss' : List ByteArray) (w : World) (hH : HeapIs hb w ns ss) (hD : ∀ k, D k → ¬ InHeap hb w k)
    (hE : Enc D w (.agg [(.num .i64), (.num .i64)]) [c0, c1] ns' ss') (hn : Room (ns ++ ns') (ss ++ ss')) :
    Calls Try.prog 91 #[.pointer (some ⟨hb, 0, none⟩), .agg #[c0, c1]] w (Put hb w (ns ++ ns') (ss ++ ss')) := by
  obtain ⟨n0, m0, t0, u0, rfl, rfl, e0, r0⟩ := Enc.split (l1 := [c0]) (l2 := [c1]) hE rfl
  obtain ⟨n1, m1, t1, u1, rfl, rfl, e1, r1⟩ := Enc.split (l1 := [c1]) (l2 := []) r0 rfl
  obtain ⟨_, rfl, rfl⟩ := r1.open_nil
  have hlt := hH.lt
  have hbx := not_box hH (.cells #[c0, c1] 76)
  have hD0 : ∀ k, D k ∧ k < w.heap.size → ¬ InHeap hb (w.alloc (.cells #[c0, c1] 76)) k := fun k hk hi => hD k hk.1 (in_alloc hlt hi)
  have S0 : Step hb (w.alloc (.cells #[c0, c1] 76)) (w.alloc (.cells #[c0, c1] 76)) := Step.refl _ _
  have H0 := hH.alloc (.cells #[c0, c1] 76)
  have E0 := (e0.fresh).keep ((Only.refl (fun _ => False) w).alloc (.cells #[c0, c1] 76)) (fun _ _ _ hf => hf)
  have E1 := (e1.fresh).keep ((Only.refl (fun _ => False) w).alloc (.cells #[c0, c1] 76)) (fun _ _ _ hf => hf)
  have R0 := Lib.hid hn
  have R1 := Lib.hid (R0.out).next
  clear hE hn e0 r0 e1 r1
  go_enter Try.func91, Try.ntmps91
  go_wp2_with fail
  refine (putInt64_any hb c0 (fun k => D k ∧ k < w.heap.size) _ _ n0 t0 _ H0 (S0.apart hD0 (fun k hk => by have := hk.2; simp; omega)) (E0.keep S0.only (fun k _ hk => hD0 k hk)) (R0.out).first).mono ?_
  rintro e w1 ⟨rfl, H1, T1⟩
  have S1 := S0.trans T1
  have b1 := S1.only.cell (p := ⟨w.heap.size, 1, none⟩) (v := c1) (by simp) hbx
  go_wp2_with fail
  refine (putInt64_any hb c1 (fun k => D k ∧ k < w.heap.size) _ _ n1 t1 _ H1 (S1.apart hD0 (fun k hk => by have := hk.2; simp; omega)) (E1.keep S1.only (fun k _ hk => hD0 k hk)) (R1.out).first).mono ?_
  rintro e w2 ⟨rfl, H2, T2⟩
  have S2 := S1.trans T2
  go_wp2
  go_end0
  exact ⟨rfl, by simpa using H2, ((Step.refl hb w).alloc hlt _).trans S2⟩

set_option maxHeartbeats 400000 in
set_option maxRecDepth 100000 in
theorem puts_Ranges (hb : Nat) (v : Value) (D : Nat → Prop) (ns : List Int) (ss : List ByteArray) (ns' : List Int) (ss' : List ByteArray) (w : World) (hH : HeapIs hb w ns ss) (hD : ∀ k, D k → ¬ InHeap hb w k)
    (hE : Enc D w (.list (.agg [(.num .i64), (.num .i64)])) [v] ns' ss') (hn : Room (ns ++ ns') (ss ++ ss')) :
    Calls Try.prog 90 #[.pointer (some ⟨hb, 0, none⟩), v, .func (.func 91) #[] #[]] w (Put hb w (ns ++ ns') (ss ++ ss')) := by
  obtain ⟨i0, hi, hz0, hz1, hz2⟩ := info_parts infoInt
  obtain ⟨a, len, cap, rows, rfl, hlen, hm, rfl, rfl, hrow⟩ := hE.open_list
  clear hE
  obtain ⟨vn, vs, hh, hN, hS⟩ := hH
  obtain ⟨c0, c1, f0, f1⟩ := heap_cells hh
  have Hrow := Lib.hid hrow; clear hrow
  have Hlen := Lib.hid hlen; clear hlen
  go_enter Try.func90, Try.ntmps90
  go_wp2_with (at_builtin; refine wpList_append_own_at _ rfl _ _ 33 rfl 0 3 i0 (.int .i64 0) 1 8 Try.underlying33 hi hz0 hz1 hz2 rfl (by decide) _ _ _ rfl (hN.alloc _) ⟨w.heap.size, 0, none⟩ 1 1 [.int .i64 len] rfl rfl (cell_one_new _ _ _) ?c2 ?c3 ?c4 ?c5 ?_)
  case c2 => simp [Value.oneCell']
  case c3 => have := hn.1; simp at this; unfold maxLen; omega
  case c4 => have := hn.1; simp at this; omega
  case c5 => omega
  intro v' w1 hown' hgrow _ hat
  obtain ⟨hh1, hO, hH'⟩ := heap_num hh hN hS hown' hgrow hat
  obtain ⟨g', cap', rfl⟩ := ownsRow_succ hown'
  obtain ⟨d0, d1, e0, e1⟩ := heap_cells hh1
  clear hh hN hS c0 c1 f0 f1 hown' hgrow hat
  go_wp2
  go_loopw [6] (fun i wr => ∃ k : Nat, k ≤ len ∧ i = .int .i64 k ∧ PutRows hb w ns ss len rows k wr) (fun i _ => len - (intOf i).toNat)
  case atStart => exact ⟨0, Nat.zero_le _, rfl, by simpa using hH', hO⟩
  case round =>
    obtain ⟨k, hk, rfl, hHr, hOr⟩ := hrel
    by_cases hlt : k < len
    · obtain ⟨r, hr⟩ : ∃ r, rows[k]? = some r := ⟨rows[k]'(by rw [Hlen.out]; exact hlt), List.getElem?_eq_getElem _⟩
      obtain ⟨b, off, rfl, hDb, hbl, hsz, hEr, hcell⟩ := Hrow.out k r hr
      have hEr' := hEr.fresh.keep hOr.only (fun j _ hj => hD j hj.1)
      have hDr : ∀ j, D j → ¬ InHeap hb wr j ∨ w.heap.size ≤ j := fun j hj => by
        by_cases h : InHeap hb wr j
        · rcases hOr.rows j h with h' | h'
          · exact absurd h' (hD j hj)
          · exact .inr h'
        · exact .inl h
      have hroom : Room ((ns ++ ((len : Int) :: (rows.take k).flatMap (fun r => r.2.1))) ++ r.2.1) ((ss ++ (rows.take k).flatMap (fun r => r.2.2)) ++ r.2.2) := by
        have h := hn.take (ns := ns) (ss := ss) rows (k + 1)
        rw [take_flat _ rows k r hr, take_flat _ rows k r hr] at h
        simpa using h
      have hst := Lib.hid (take_flat (fun r : List Value × List Int × List ByteArray => r.2.1) rows k _ hr)
      have hst2 := Lib.hid (take_flat (fun r : List Value × List Int × List ByteArray => r.2.2) rows k _ hr)
      obtain ⟨rc, rn, rs⟩ := r
      dsimp only at hEr' hcell hsz hroom hst hst2
      obtain ⟨x0, x1, rfl⟩ := len_2 hsz
      have hx0 := hOr.only.cell (hcell 0 _ rfl) (hD b hDb)
      have hx1 := hOr.only.cell (hcell 1 _ rfl) (hD b hDb)
      clear hcell hr hEr
      simp only [Sh.size, Sh.sizes, Nat.mul_one, Nat.add_zero, Nat.reduceAdd] at hx0 hx1
      go_wp2_with fail
      refine (putRange_any hb x0 x1 (fun j => D j ∧ j < w.heap.size) _ _ rn rs _ hHr (fun j hj => (hDr j hj.1).resolve_right (by have := hj.2; omega)) hEr' hroom).mono ?_
      rintro e w2 ⟨rfl, hH2, hO2⟩
      go_wp2
      go_roundw
      case rel =>
        refine ⟨k + 1, by omega, by go_num, ?_, hOr.trans hO2⟩
        rw [hst.out, hst2.out]; simpa using hH2
      case measure => simp [intOf]; omega
    · go_wp2
      go_end0
      have hall : rows.take k = rows := List.take_of_length_le (by rw [Hlen.out]; omega)
      rw [hall] at hHr
      exact ⟨rfl, hHr, hOr⟩

set_option maxHeartbeats 400000 in
theorem putRanges_any (hb : Nat) (v : Value) (D : Nat → Prop) (ns : List Int) (ss : List ByteArray) (ns' : List Int) (ss' : List ByteArray) (w : World) (hH : HeapIs hb w ns ss) (hD : ∀ k, D k → ¬ InHeap hb w k)
    (hE : Enc D w (.list (.agg [(.num .i64), (.num .i64)])) [v] ns' ss') (hn : Room (ns ++ ns') (ss ++ ss')) :
    Calls Try.prog 75 #[.pointer (some ⟨hb, 0, none⟩), v] w (Put hb w (ns ++ ns') (ss ++ ss')) := by
  go_enter Try.func75, Try.ntmps75
  go_wp2_with fail
  refine (puts_Ranges hb v D ns ss ns' ss' _ hH hD hE hn).mono ?_
  rintro e w' ⟨rfl, h1, h2⟩
  go_wp2
  go_end0
  exact ⟨rfl, h1, h2⟩

set_option maxHeartbeats 1000000 in
set_option maxRecDepth 100000 in
theorem putOddsPool_any (hb : Nat) (c0 c1 : Value) (D : Nat → Prop) (ns : List Int) (ss : List ByteArray) (ns' : List Int) (ss' : List ByteArray) (w : World) (hH : HeapIs hb w ns ss) (hD : ∀ k, D k → ¬ InHeap hb w k)
    (hE : Enc D w (.agg [(.list (.agg [(.num .i64), (.num .i64)])), (.num .i64)]) [c0, c1] ns' ss') (hn : Room (ns ++ ns') (ss ++ ss')) :
    Calls Try.prog 42 #[.pointer (some ⟨hb, 0, none⟩), .agg #[c0, c1]] w (Put hb w (ns ++ ns') (ss ++ ss')) := by
  obtain ⟨n0, m0, t0, u0, rfl, rfl, e0, r0⟩ := Enc.split (l1 := [c0]) (l2 := [c1]) hE rfl
  obtain ⟨n1, m1, t1, u1, rfl, rfl, e1, r1⟩ := Enc.split (l1 := [c1]) (l2 := []) r0 rfl
  obtain ⟨_, rfl, rfl⟩ := r1.open_nil
  have hlt := hH.lt
  have hbx := not_box hH (.cells #[c0, c1] 26)
  have hD0 : ∀ k, D k ∧ k < w.heap.size → ¬ InHeap hb (w.alloc (.cells #[c0, c1] 26)) k := fun k hk hi => hD k hk.1 (in_alloc hlt hi)
  have S0 : Step hb (w.alloc (.cells #[c0, c1] 26)) (w.alloc (.cells #[c0, c1] 26)) := Step.refl _ _
  have H0 := hH.alloc (.cells #[c0, c1] 26)
  have E0 := (e0.fresh).keep ((Only.refl (fun _ => False) w).alloc (.cells #[c0, c1] 26)) (fun _ _ _ hf => hf)
  have E1 := (e1.fresh).keep ((Only.refl (fun _ => False) w).alloc (.cells #[c0, c1] 26)) (fun _ _ _ hf => hf)
  have R0 := Lib.hid hn
  have R1 := Lib.hid (R0.out).next
  clear hE hn e0 r0 e1 r1
  go_enter Try.func42, Try.ntmps42
  go_wp2_with fail
  refine (putRanges_any hb c0 (fun k => D k ∧ k < w.heap.size) _ _ n0 t0 _ H0 (S0.apart hD0 (fun k hk => by have := hk.2; simp; omega)) (E0.keep S0.only (fun k _ hk => hD0 k hk)) (R0.out).first).mono ?_
  rintro e w1 ⟨rfl, H1, T1⟩
  have S1 := S0.trans T1
  have b1 := S1.only.cell (p := ⟨w.heap.size, 1, none⟩) (v := c1) (by simp) hbx
  go_wp2_with fail
  refine (putInt64_any hb c1 (fun k => D k ∧ k < w.heap.size) _ _ n1 t1 _ H1 (S1.apart hD0 (fun k hk => by have := hk.2; simp; omega)) (E1.keep S1.only (fun k _ hk => hD0 k hk)) (R1.out).first).mono ?_
  rintro e w2 ⟨rfl, H2, T2⟩
  have S2 := S1.trans T2
  go_wp2
  go_end0
  exact ⟨rfl, by simpa using H2, ((Step.refl hb w).alloc hlt _).trans S2⟩

set_option maxHeartbeats 400000 in
set_option maxRecDepth 100000 in
theorem putBool_any (hb : Nat) (c : Value) (D : Nat → Prop) (ns : List Int) (ss : List ByteArray) (ns' : List Int) (ss' : List ByteArray) (w : World) (hH : HeapIs hb w ns ss) (hD : ∀ k, D k → ¬ InHeap hb w k)
    (hE : Enc D w .bool [c] ns' ss') (hn : Room (ns ++ ns') (ss ++ ss')) :
    Calls Try.prog 96 #[.pointer (some ⟨hb, 0, none⟩), c] w (Put hb w (ns ++ ns') (ss ++ ss')) := by
  obtain ⟨x, rfl, rfl, rfl⟩ := hE.open_bool
  obtain ⟨i0, hi, hz0, hz1, hz2⟩ := info_parts infoInt
  obtain ⟨vn, vs, hh, hN, hS⟩ := hH
  obtain ⟨c0, c1, f0, f1⟩ := heap_cells hh
  cases x
  · go_enter Try.func96, Try.ntmps96
    go_wp2_with (at_builtin; refine wpList_append_own_at _ rfl _ _ 33 rfl 0 3 i0 (.int .i64 0) 1 8 Try.underlying33 hi hz0 hz1 hz2 rfl (by decide) _ _ _ rfl (hN.alloc _) ⟨w.heap.size, 0, none⟩ 1 1 [.int .i64 0] rfl rfl (cell_one_new _ _ _) ?c2 ?c3 ?c4 ?c5 ?_)
    case c2 => simp [Value.oneCell']
    case c3 => have := hn.1; simp at this; unfold maxLen; omega
    case c4 => have := hn.1; simp at this; omega
    try (case c5 => omega)
    intro v' w1 hown' hgrow _ hat
    obtain ⟨hh1, hO, hH'⟩ := heap_num hh hN hS hown' hgrow hat
    obtain ⟨g', cap', rfl⟩ := ownsRow_succ hown'
    obtain ⟨d0, d1, e0, e1⟩ := heap_cells hh1
    clear hh hN hS c0 c1 f0 f1 hown' hgrow hat
    go_wp2
    go_end0
    exact ⟨rfl, by simpa using hH', hO⟩
  · go_enter Try.func96, Try.ntmps96
    go_wp2_with (at_builtin; refine wpList_append_own_at _ rfl _ _ 33 rfl 0 3 i0 (.int .i64 0) 1 8 Try.underlying33 hi hz0 hz1 hz2 rfl (by decide) _ _ _ rfl (hN.alloc _) ⟨w.heap.size, 0, none⟩ 1 1 [.int .i64 1] rfl rfl (cell_one_new _ _ _) ?c2 ?c3 ?c4 ?c5 ?_)
    case c2 => simp [Value.oneCell']
    case c3 => have := hn.1; simp at this; unfold maxLen; omega
    case c4 => have := hn.1; simp at this; omega
    try (case c5 => omega)
    intro v' w1 hown' hgrow _ hat
    obtain ⟨hh1, hO, hH'⟩ := heap_num hh hN hS hown' hgrow hat
    obtain ⟨g', cap', rfl⟩ := ownsRow_succ hown'
    obtain ⟨d0, d1, e0, e1⟩ := heap_cells hh1
    clear hh hN hS c0 c1 f0 f1 hown' hgrow hat
    go_wp2
    go_end0
    exact ⟨rfl, by simpa using hH', hO⟩

set_option maxHeartbeats 1000000 in
set_option maxRecDepth 100000 in
theorem putOddsQuote_any (hb : Nat) (c0 c1 c2 c3 : Value) (D : Nat → Prop) (ns : List Int) (ss : List ByteArray) (ns' : List Int) (ss' : List ByteArray) (w : World) (hH : HeapIs hb w ns ss) (hD : ∀ k, D k → ¬ InHeap hb w k)
    (hE : Enc D w (.agg [(.num .i64), (.num .i64), (.num .i64), .bool]) [c0, c1, c2, c3] ns' ss') (hn : Room (ns ++ ns') (ss ++ ss')) :
    Calls Try.prog 93 #[.pointer (some ⟨hb, 0, none⟩), .agg #[c0, c1, c2, c3]] w (Put hb w (ns ++ ns') (ss ++ ss')) := by
  obtain ⟨n0, m0, t0, u0, rfl, rfl, e0, r0⟩ := Enc.split (l1 := [c0]) (l2 := [c1, c2, c3]) hE rfl
  obtain ⟨n1, m1, t1, u1, rfl, rfl, e1, r1⟩ := Enc.split (l1 := [c1]) (l2 := [c2, c3]) r0 rfl
  obtain ⟨n2, m2, t2, u2, rfl, rfl, e2, r2⟩ := Enc.split (l1 := [c2]) (l2 := [c3]) r1 rfl
  obtain ⟨n3, m3, t3, u3, rfl, rfl, e3, r3⟩ := Enc.split (l1 := [c3]) (l2 := []) r2 rfl
  obtain ⟨_, rfl, rfl⟩ := r3.open_nil
  have hlt := hH.lt
  have hbx := not_box hH (.cells #[c0, c1, c2, c3] 83)
  have hD0 : ∀ k, D k ∧ k < w.heap.size → ¬ InHeap hb (w.alloc (.cells #[c0, c1, c2, c3] 83)) k := fun k hk hi => hD k hk.1 (in_alloc hlt hi)
  have S0 : Step hb (w.alloc (.cells #[c0, c1, c2, c3] 83)) (w.alloc (.cells #[c0, c1, c2, c3] 83)) := Step.refl _ _
  have H0 := hH.alloc (.cells #[c0, c1, c2, c3] 83)
  have E0 := (e0.fresh).keep ((Only.refl (fun _ => False) w).alloc (.cells #[c0, c1, c2, c3] 83)) (fun _ _ _ hf => hf)
  have E1 := (e1.fresh).keep ((Only.refl (fun _ => False) w).alloc (.cells #[c0, c1, c2, c3] 83)) (fun _ _ _ hf => hf)
  have E2 := (e2.fresh).keep ((Only.refl (fun _ => False) w).alloc (.cells #[c0, c1, c2, c3] 83)) (fun _ _ _ hf => hf)
  have E3 := (e3.fresh).keep ((Only.refl (fun _ => False) w).alloc (.cells #[c0, c1, c2, c3] 83)) (fun _ _ _ hf => hf)
  have R0 := Lib.hid hn
  have R1 := Lib.hid (R0.out).next
  have R2 := Lib.hid (R1.out).next
  have R3 := Lib.hid (R2.out).next
  clear hE hn e0 r0 e1 r1 e2 r2 e3 r3
  go_enter Try.func93, Try.ntmps93
  go_wp2_with fail
  refine (putInt_any hb c0 (fun k => D k ∧ k < w.heap.size) _ _ n0 t0 _ H0 (S0.apart hD0 (fun k hk => by have := hk.2; simp; omega)) (E0.keep S0.only (fun k _ hk => hD0 k hk)) (R0.out).first).mono ?_
  rintro e w1 ⟨rfl, H1, T1⟩
  have S1 := S0.trans T1
  have b1 := S1.only.cell (p := ⟨w.heap.size, 1, none⟩) (v := c1) (by simp) hbx
  go_wp2_with fail
  refine (putInt64_any hb c1 (fun k => D k ∧ k < w.heap.size) _ _ n1 t1 _ H1 (S1.apart hD0 (fun k hk => by have := hk.2; simp; omega)) (E1.keep S1.only (fun k _ hk => hD0 k hk)) (R1.out).first).mono ?_
  rintro e w2 ⟨rfl, H2, T2⟩
  have S2 := S1.trans T2
  have b2 := S2.only.cell (p := ⟨w.heap.size, 2, none⟩) (v := c2) (by simp) hbx
  go_wp2_with fail
  refine (putInt64_any hb c2 (fun k => D k ∧ k < w.heap.size) _ _ n2 t2 _ H2 (S2.apart hD0 (fun k hk => by have := hk.2; simp; omega)) (E2.keep S2.only (fun k _ hk => hD0 k hk)) (R2.out).first).mono ?_
  rintro e w3 ⟨rfl, H3, T3⟩
  have S3 := S2.trans T3
  have b3 := S3.only.cell (p := ⟨w.heap.size, 3, none⟩) (v := c3) (by simp) hbx
  go_wp2_with fail
  refine (putBool_any hb c3 (fun k => D k ∧ k < w.heap.size) _ _ n3 t3 _ H3 (S3.apart hD0 (fun k hk => by have := hk.2; simp; omega)) (E3.keep S3.only (fun k _ hk => hD0 k hk)) (R3.out).first).mono ?_
  rintro e w4 ⟨rfl, H4, T4⟩
  have S4 := S3.trans T4
  go_wp2
  go_end0
  exact ⟨rfl, by simpa using H4, ((Step.refl hb w).alloc hlt _).trans S4⟩

set_option maxHeartbeats 400000 in
set_option maxRecDepth 100000 in
theorem puts_OddsQuotes (hb : Nat) (v : Value) (D : Nat → Prop) (ns : List Int) (ss : List ByteArray) (ns' : List Int) (ss' : List ByteArray) (w : World) (hH : HeapIs hb w ns ss) (hD : ∀ k, D k → ¬ InHeap hb w k)
    (hE : Enc D w (.list (.agg [(.num .i64), (.num .i64), (.num .i64), .bool])) [v] ns' ss') (hn : Room (ns ++ ns') (ss ++ ss')) :
    Calls Try.prog 92 #[.pointer (some ⟨hb, 0, none⟩), v, .func (.func 93) #[] #[]] w (Put hb w (ns ++ ns') (ss ++ ss')) := by
  obtain ⟨i0, hi, hz0, hz1, hz2⟩ := info_parts infoInt
  obtain ⟨a, len, cap, rows, rfl, hlen, hm, rfl, rfl, hrow⟩ := hE.open_list
  clear hE
  obtain ⟨vn, vs, hh, hN, hS⟩ := hH
  obtain ⟨c0, c1, f0, f1⟩ := heap_cells hh
  have Hrow := Lib.hid hrow; clear hrow
  have Hlen := Lib.hid hlen; clear hlen
  go_enter Try.func92, Try.ntmps92
  go_wp2_with (at_builtin; refine wpList_append_own_at _ rfl _ _ 33 rfl 0 3 i0 (.int .i64 0) 1 8 Try.underlying33 hi hz0 hz1 hz2 rfl (by decide) _ _ _ rfl (hN.alloc _) ⟨w.heap.size, 0, none⟩ 1 1 [.int .i64 len] rfl rfl (cell_one_new _ _ _) ?c2 ?c3 ?c4 ?c5 ?_)
  case c2 => simp [Value.oneCell']
  case c3 => have := hn.1; simp at this; unfold maxLen; omega
  case c4 => have := hn.1; simp at this; omega
  case c5 => omega
  intro v' w1 hown' hgrow _ hat
  obtain ⟨hh1, hO, hH'⟩ := heap_num hh hN hS hown' hgrow hat
  obtain ⟨g', cap', rfl⟩ := ownsRow_succ hown'
  obtain ⟨d0, d1, e0, e1⟩ := heap_cells hh1
  clear hh hN hS c0 c1 f0 f1 hown' hgrow hat
  go_wp2
  go_loopw [6] (fun i wr => ∃ k : Nat, k ≤ len ∧ i = .int .i64 k ∧ PutRows hb w ns ss len rows k wr) (fun i _ => len - (intOf i).toNat)
  case atStart => exact ⟨0, Nat.zero_le _, rfl, by simpa using hH', hO⟩
  case round =>
    obtain ⟨k, hk, rfl, hHr, hOr⟩ := hrel
    by_cases hlt : k < len
    · obtain ⟨r, hr⟩ : ∃ r, rows[k]? = some r := ⟨rows[k]'(by rw [Hlen.out]; exact hlt), List.getElem?_eq_getElem _⟩
      obtain ⟨b, off, rfl, hDb, hbl, hsz, hEr, hcell⟩ := Hrow.out k r hr
      have hEr' := hEr.fresh.keep hOr.only (fun j _ hj => hD j hj.1)
      have hDr : ∀ j, D j → ¬ InHeap hb wr j ∨ w.heap.size ≤ j := fun j hj => by
        by_cases h : InHeap hb wr j
        · rcases hOr.rows j h with h' | h'
          · exact absurd h' (hD j hj)
          · exact .inr h'
        · exact .inl h
      have hroom : Room ((ns ++ ((len : Int) :: (rows.take k).flatMap (fun r => r.2.1))) ++ r.2.1) ((ss ++ (rows.take k).flatMap (fun r => r.2.2)) ++ r.2.2) := by
        have h := hn.take (ns := ns) (ss := ss) rows (k + 1)
        rw [take_flat _ rows k r hr, take_flat _ rows k r hr] at h
        simpa using h
      have hst := Lib.hid (take_flat (fun r : List Value × List Int × List ByteArray => r.2.1) rows k _ hr)
      have hst2 := Lib.hid (take_flat (fun r : List Value × List Int × List ByteArray => r.2.2) rows k _ hr)
      obtain ⟨rc, rn, rs⟩ := r
      dsimp only at hEr' hcell hsz hroom hst hst2
      obtain ⟨x0, x1, x2, x3, rfl⟩ := len_4 hsz
      have hx0 := hOr.only.cell (hcell 0 _ rfl) (hD b hDb)
      have hx1 := hOr.only.cell (hcell 1 _ rfl) (hD b hDb)
      have hx2 := hOr.only.cell (hcell 2 _ rfl) (hD b hDb)
      have hx3 := hOr.only.cell (hcell 3 _ rfl) (hD b hDb)
      clear hcell hr hEr
      simp only [Sh.size, Sh.sizes, Nat.mul_one, Nat.add_zero, Nat.reduceAdd] at hx0 hx1 hx2 hx3
      go_wp2_with fail
      refine (putOddsQuote_any hb x0 x1 x2 x3 (fun j => D j ∧ j < w.heap.size) _ _ rn rs _ hHr (fun j hj => (hDr j hj.1).resolve_right (by have := hj.2; omega)) hEr' hroom).mono ?_
      rintro e w2 ⟨rfl, hH2, hO2⟩
      go_wp2
      go_roundw
      case rel =>
        refine ⟨k + 1, by omega, by go_num, ?_, hOr.trans hO2⟩
        rw [hst.out, hst2.out]; simpa using hH2
      case measure => simp [intOf]; omega
    · go_wp2
      go_end0
      have hall : rows.take k = rows := List.take_of_length_le (by rw [Hlen.out]; omega)
      rw [hall] at hHr
      exact ⟨rfl, hHr, hOr⟩

set_option maxHeartbeats 400000 in
theorem putOddsQuotes_any (hb : Nat) (v : Value) (D : Nat → Prop) (ns : List Int) (ss : List ByteArray) (ns' : List Int) (ss' : List ByteArray) (w : World) (hH : HeapIs hb w ns ss) (hD : ∀ k, D k → ¬ InHeap hb w k)
    (hE : Enc D w (.list (.agg [(.num .i64), (.num .i64), (.num .i64), .bool])) [v] ns' ss') (hn : Room (ns ++ ns') (ss ++ ss')) :
    Calls Try.prog 76 #[.pointer (some ⟨hb, 0, none⟩), v] w (Put hb w (ns ++ ns') (ss ++ ss')) := by
  go_enter Try.func76, Try.ntmps76
  go_wp2_with fail
  refine (puts_OddsQuotes hb v D ns ss ns' ss' _ hH hD hE hn).mono ?_
  rintro e w' ⟨rfl, h1, h2⟩
  go_wp2
  go_end0
  exact ⟨rfl, h1, h2⟩

set_option maxHeartbeats 1000000 in
set_option maxRecDepth 100000 in
theorem putOddsMarket_any (hb : Nat) (c0 c1 : Value) (D : Nat → Prop) (ns : List Int) (ss : List ByteArray) (ns' : List Int) (ss' : List ByteArray) (w : World) (hH : HeapIs hb w ns ss) (hD : ∀ k, D k → ¬ InHeap hb w k)
    (hE : Enc D w (.agg [(.num .i64), (.list (.agg [(.num .i64), (.num .i64), (.num .i64), .bool]))]) [c0, c1] ns' ss') (hn : Room (ns ++ ns') (ss ++ ss')) :
    Calls Try.prog 43 #[.pointer (some ⟨hb, 0, none⟩), .agg #[c0, c1]] w (Put hb w (ns ++ ns') (ss ++ ss')) := by
  obtain ⟨n0, m0, t0, u0, rfl, rfl, e0, r0⟩ := Enc.split (l1 := [c0]) (l2 := [c1]) hE rfl
  obtain ⟨n1, m1, t1, u1, rfl, rfl, e1, r1⟩ := Enc.split (l1 := [c1]) (l2 := []) r0 rfl
  obtain ⟨_, rfl, rfl⟩ := r1.open_nil
  have hlt := hH.lt
  have hbx := not_box hH (.cells #[c0, c1] 29)
  have hD0 : ∀ k, D k ∧ k < w.heap.size → ¬ InHeap hb (w.alloc (.cells #[c0, c1] 29)) k := fun k hk hi => hD k hk.1 (in_alloc hlt hi)
  have S0 : Step hb (w.alloc (.cells #[c0, c1] 29)) (w.alloc (.cells #[c0, c1] 29)) := Step.refl _ _
  have H0 := hH.alloc (.cells #[c0, c1] 29)
  have E0 := (e0.fresh).keep ((Only.refl (fun _ => False) w).alloc (.cells #[c0, c1] 29)) (fun _ _ _ hf => hf)
  have E1 := (e1.fresh).keep ((Only.refl (fun _ => False) w).alloc (.cells #[c0, c1] 29)) (fun _ _ _ hf => hf)
  have R0 := Lib.hid hn
  have R1 := Lib.hid (R0.out).next
  clear hE hn e0 r0 e1 r1
  go_enter Try.func43, Try.ntmps43
  go_wp2_with fail
  refine (putInt_any hb c0 (fun k => D k ∧ k < w.heap.size) _ _ n0 t0 _ H0 (S0.apart hD0 (fun k hk => by have := hk.2; simp; omega)) (E0.keep S0.only (fun k _ hk => hD0 k hk)) (R0.out).first).mono ?_
  rintro e w1 ⟨rfl, H1, T1⟩
  have S1 := S0.trans T1
  have b1 := S1.only.cell (p := ⟨w.heap.size, 1, none⟩) (v := c1) (by simp) hbx
  go_wp2_with fail
  refine (putOddsQuotes_any hb c1 (fun k => D k ∧ k < w.heap.size) _ _ n1 t1 _ H1 (S1.apart hD0 (fun k hk => by have := hk.2; simp; omega)) (E1.keep S1.only (fun k _ hk => hD0 k hk)) (R1.out).first).mono ?_
  rintro e w2 ⟨rfl, H2, T2⟩
  have S2 := S1.trans T2
  go_wp2
  go_end0
  exact ⟨rfl, by simpa using H2, ((Step.refl hb w).alloc hlt _).trans S2⟩

set_option maxHeartbeats 400000 in
set_option maxRecDepth 100000 in
theorem puts_Int64s (hb : Nat) (v : Value) (D : Nat → Prop) (ns : List Int) (ss : List ByteArray) (ns' : List Int) (ss' : List ByteArray) (w : World) (hH : HeapIs hb w ns ss) (hD : ∀ k, D k → ¬ InHeap hb w k)
    (hE : Enc D w (.list (.num .i64)) [v] ns' ss') (hn : Room (ns ++ ns') (ss ++ ss')) :
    Calls Try.prog 65 #[.pointer (some ⟨hb, 0, none⟩), v, .func (.func 46) #[] #[]] w (Put hb w (ns ++ ns') (ss ++ ss')) := by
  obtain ⟨i0, hi, hz0, hz1, hz2⟩ := info_parts infoInt
  obtain ⟨a, len, cap, rows, rfl, hlen, hm, rfl, rfl, hrow⟩ := hE.open_list
  clear hE
  obtain ⟨vn, vs, hh, hN, hS⟩ := hH
  obtain ⟨c0, c1, f0, f1⟩ := heap_cells hh
  have Hrow := Lib.hid hrow; clear hrow
  have Hlen := Lib.hid hlen; clear hlen
  go_enter Try.func65, Try.ntmps65
  go_wp2_with (at_builtin; refine wpList_append_own_at _ rfl _ _ 33 rfl 0 3 i0 (.int .i64 0) 1 8 Try.underlying33 hi hz0 hz1 hz2 rfl (by decide) _ _ _ rfl (hN.alloc _) ⟨w.heap.size, 0, none⟩ 1 1 [.int .i64 len] rfl rfl (cell_one_new _ _ _) ?c2 ?c3 ?c4 ?c5 ?_)
  case c2 => simp [Value.oneCell']
  case c3 => have := hn.1; simp at this; unfold maxLen; omega
  case c4 => have := hn.1; simp at this; omega
  case c5 => omega
  intro v' w1 hown' hgrow _ hat
  obtain ⟨hh1, hO, hH'⟩ := heap_num hh hN hS hown' hgrow hat
  obtain ⟨g', cap', rfl⟩ := ownsRow_succ hown'
  obtain ⟨d0, d1, e0, e1⟩ := heap_cells hh1
  clear hh hN hS c0 c1 f0 f1 hown' hgrow hat
  go_wp2
  go_loopw [6] (fun i wr => ∃ k : Nat, k ≤ len ∧ i = .int .i64 k ∧ PutRows hb w ns ss len rows k wr) (fun i _ => len - (intOf i).toNat)
  case atStart => exact ⟨0, Nat.zero_le _, rfl, by simpa using hH', hO⟩
  case round =>
    obtain ⟨k, hk, rfl, hHr, hOr⟩ := hrel
    by_cases hlt : k < len
    · obtain ⟨r, hr⟩ : ∃ r, rows[k]? = some r := ⟨rows[k]'(by rw [Hlen.out]; exact hlt), List.getElem?_eq_getElem _⟩
      obtain ⟨b, off, rfl, hDb, hbl, hsz, hEr, hcell⟩ := Hrow.out k r hr
      have hEr' := hEr.fresh.keep hOr.only (fun j _ hj => hD j hj.1)
      have hDr : ∀ j, D j → ¬ InHeap hb wr j ∨ w.heap.size ≤ j := fun j hj => by
        by_cases h : InHeap hb wr j
        · rcases hOr.rows j h with h' | h'
          · exact absurd h' (hD j hj)
          · exact .inr h'
        · exact .inl h
      have hroom : Room ((ns ++ ((len : Int) :: (rows.take k).flatMap (fun r => r.2.1))) ++ r.2.1) ((ss ++ (rows.take k).flatMap (fun r => r.2.2)) ++ r.2.2) := by
        have h := hn.take (ns := ns) (ss := ss) rows (k + 1)
        rw [take_flat _ rows k r hr, take_flat _ rows k r hr] at h
        simpa using h
      have hst := Lib.hid (take_flat (fun r : List Value × List Int × List ByteArray => r.2.1) rows k _ hr)
      have hst2 := Lib.hid (take_flat (fun r : List Value × List Int × List ByteArray => r.2.2) rows k _ hr)
      obtain ⟨rc, rn, rs⟩ := r
      dsimp only at hEr' hcell hsz hroom hst hst2
      obtain ⟨x0, rfl⟩ := len_1 hsz
      have hx0 := hOr.only.cell (hcell 0 _ rfl) (hD b hDb)
      clear hcell hr hEr
      simp only [Sh.size, Sh.sizes, Nat.mul_one, Nat.add_zero, Nat.reduceAdd] at hx0
      go_wp2_with fail
      refine (putInt64_any hb x0 (fun j => D j ∧ j < w.heap.size) _ _ rn rs _ hHr (fun j hj => (hDr j hj.1).resolve_right (by have := hj.2; omega)) hEr' hroom).mono ?_
      rintro e w2 ⟨rfl, hH2, hO2⟩
      go_wp2
      go_roundw
      case rel =>
        refine ⟨k + 1, by omega, by go_num, ?_, hOr.trans hO2⟩
        rw [hst.out, hst2.out]; simpa using hH2
      case measure => simp [intOf]; omega
    · go_wp2
      go_end0
      have hall : rows.take k = rows := List.take_of_length_le (by rw [Hlen.out]; omega)
      rw [hall] at hHr
      exact ⟨rfl, hHr, hOr⟩

set_option maxHeartbeats 400000 in
theorem putInt64s_any (hb : Nat) (v : Value) (D : Nat → Prop) (ns : List Int) (ss : List ByteArray) (ns' : List Int) (ss' : List ByteArray) (w : World) (hH : HeapIs hb w ns ss) (hD : ∀ k, D k → ¬ InHeap hb w k)
    (hE : Enc D w (.list (.num .i64)) [v] ns' ss') (hn : Room (ns ++ ns') (ss ++ ss')) :
    Calls Try.prog 31 #[.pointer (some ⟨hb, 0, none⟩), v] w (Put hb w (ns ++ ns') (ss ++ ss')) := by
  go_enter Try.func31, Try.ntmps31
  go_wp2_with fail
  refine (puts_Int64s hb v D ns ss ns' ss' _ hH hD hE hn).mono ?_
  rintro e w' ⟨rfl, h1, h2⟩
  go_wp2
  go_end0
  exact ⟨rfl, h1, h2⟩

set_option maxHeartbeats 400000 in
set_option maxRecDepth 100000 in
theorem putErrno_any (hb : Nat) (c : Value) (D : Nat → Prop) (ns : List Int) (ss : List ByteArray) (ns' : List Int) (ss' : List ByteArray) (w : World) (hH : HeapIs hb w ns ss) (hD : ∀ k, D k → ¬ InHeap hb w k)
    (hE : Enc D w (.num .i64) [c] ns' ss') (hn : Room (ns ++ ns') (ss ++ ss')) :
    Calls Try.prog 9 #[.pointer (some ⟨hb, 0, none⟩), c] w (Put hb w (ns ++ ns') (ss ++ ss')) := by
  obtain ⟨x, rfl, rfl, rfl⟩ := hE.open_num
  obtain ⟨i0, hi, hz0, hz1, hz2⟩ := info_parts infoInt
  obtain ⟨vn, vs, hh, hN, hS⟩ := hH
  obtain ⟨c0, c1, f0, f1⟩ := heap_cells hh
  go_enter Try.func9, Try.ntmps9
  go_wp2_with (at_builtin; refine wpList_append_own_at _ rfl _ _ 33 rfl 0 3 i0 (.int .i64 0) 1 8 Try.underlying33 hi hz0 hz1 hz2 rfl (by decide) _ _ _ rfl (hN.alloc _) ⟨w.heap.size, 0, none⟩ 1 1 [.int .i64 x] rfl rfl (cell_one_new _ _ _) ?c2 ?c3 ?c4 ?c5 ?_)
  case c2 => simp [Value.oneCell']
  case c3 => have := hn.1; simp at this; unfold maxLen; omega
  case c4 => have := hn.1; simp at this; omega
  try (case c5 => omega)
  intro v' w1 hown' hgrow _ hat
  obtain ⟨hh1, hO, hH'⟩ := heap_num hh hN hS hown' hgrow hat
  obtain ⟨g', cap', rfl⟩ := ownsRow_succ hown'
  obtain ⟨d0, d1, e0, e1⟩ := heap_cells hh1
  clear hh hN hS c0 c1 f0 f1 hown' hgrow hat
  go_wp2
  go_end0
  exact ⟨rfl, by simpa using hH', hO⟩

set_option maxHeartbeats 1000000 in
set_option maxRecDepth 100000 in
theorem all_any (hb : Nat) (c0 c1 c2 c3 c4 c5 c6 c7 c8 c9 c10 c11 c12 c13 : Value) (D : Nat → Prop) (ns : List Int) (ss : List ByteArray) (ns' : List Int) (ss' : List ByteArray) (w : World) (hH : HeapIs hb w ns ss) (hD : ∀ k, D k → ¬ InHeap hb w k)
    (hE : Enc D w (.agg [(.agg [(.num .i64), (.num .i64)]), (.num .i64), (.agg [(.num .i64), (.num .i64)]), (.agg [(.num .i64), (.num .i64)]), (.agg [(.list (.agg [(.num .i64), (.num .i64)])), (.num .i64)]), (.num .i64), (.agg [(.num .i64), (.list (.agg [(.num .i64), (.num .i64), (.num .i64), .bool]))]), (.list (.num .i64)), (.list (.num .i64))]) [c0, c1, c2, c3, c4, c5, c6, c7, c8, c9, c10, c11, c12, c13] ns' ss') (hn : Room (ns ++ ns') (ss ++ ss')) :
    Calls Try.prog 4 #[.agg #[c0, c1, c2, c3, c4, c5, c6, c7, c8, c9, c10, c11, c12, c13], .pointer (some ⟨hb, 0, none⟩)] w (Put hb w (ns ++ ns') (ss ++ ss')) := by
  obtain ⟨n0, m0, t0, u0, rfl, rfl, e0, r0⟩ := Enc.split (l1 := [c0, c1]) (l2 := [c2, c3, c4, c5, c6, c7, c8, c9, c10, c11, c12, c13]) hE rfl
  obtain ⟨n1, m1, t1, u1, rfl, rfl, e1, r1⟩ := Enc.split (l1 := [c2]) (l2 := [c3, c4, c5, c6, c7, c8, c9, c10, c11, c12, c13]) r0 rfl
  obtain ⟨n2, m2, t2, u2, rfl, rfl, e2, r2⟩ := Enc.split (l1 := [c3, c4]) (l2 := [c5, c6, c7, c8, c9, c10, c11, c12, c13]) r1 rfl
  obtain ⟨n3, m3, t3, u3, rfl, rfl, e3, r3⟩ := Enc.split (l1 := [c5, c6]) (l2 := [c7, c8, c9, c10, c11, c12, c13]) r2 rfl
  obtain ⟨n4, m4, t4, u4, rfl, rfl, e4, r4⟩ := Enc.split (l1 := [c7, c8]) (l2 := [c9, c10, c11, c12, c13]) r3 rfl
  obtain ⟨n5, m5, t5, u5, rfl, rfl, e5, r5⟩ := Enc.split (l1 := [c9]) (l2 := [c10, c11, c12, c13]) r4 rfl
  obtain ⟨n6, m6, t6, u6, rfl, rfl, e6, r6⟩ := Enc.split (l1 := [c10, c11]) (l2 := [c12, c13]) r5 rfl
  obtain ⟨n7, m7, t7, u7, rfl, rfl, e7, r7⟩ := Enc.split (l1 := [c12]) (l2 := [c13]) r6 rfl
  obtain ⟨n8, m8, t8, u8, rfl, rfl, e8, r8⟩ := Enc.split (l1 := [c13]) (l2 := []) r7 rfl
  obtain ⟨_, rfl, rfl⟩ := r8.open_nil
  have hlt := hH.lt
  have hbx := not_box hH (.cells #[c0, c1, c2, c3, c4, c5, c6, c7, c8, c9, c10, c11, c12, c13] 32)
  have hD0 : ∀ k, D k ∧ k < w.heap.size → ¬ InHeap hb (w.alloc (.cells #[c0, c1, c2, c3, c4, c5, c6, c7, c8, c9, c10, c11, c12, c13] 32)) k := fun k hk hi => hD k hk.1 (in_alloc hlt hi)
  have S0 : Step hb (w.alloc (.cells #[c0, c1, c2, c3, c4, c5, c6, c7, c8, c9, c10, c11, c12, c13] 32)) (w.alloc (.cells #[c0, c1, c2, c3, c4, c5, c6, c7, c8, c9, c10, c11, c12, c13] 32)) := Step.refl _ _
  have H0 := hH.alloc (.cells #[c0, c1, c2, c3, c4, c5, c6, c7, c8, c9, c10, c11, c12, c13] 32)
  have E0 := (e0.fresh).keep ((Only.refl (fun _ => False) w).alloc (.cells #[c0, c1, c2, c3, c4, c5, c6, c7, c8, c9, c10, c11, c12, c13] 32)) (fun _ _ _ hf => hf)
  have E1 := (e1.fresh).keep ((Only.refl (fun _ => False) w).alloc (.cells #[c0, c1, c2, c3, c4, c5, c6, c7, c8, c9, c10, c11, c12, c13] 32)) (fun _ _ _ hf => hf)
  have E2 := (e2.fresh).keep ((Only.refl (fun _ => False) w).alloc (.cells #[c0, c1, c2, c3, c4, c5, c6, c7, c8, c9, c10, c11, c12, c13] 32)) (fun _ _ _ hf => hf)
  have E3 := (e3.fresh).keep ((Only.refl (fun _ => False) w).alloc (.cells #[c0, c1, c2, c3, c4, c5, c6, c7, c8, c9, c10, c11, c12, c13] 32)) (fun _ _ _ hf => hf)
  have E4 := (e4.fresh).keep ((Only.refl (fun _ => False) w).alloc (.cells #[c0, c1, c2, c3, c4, c5, c6, c7, c8, c9, c10, c11, c12, c13] 32)) (fun _ _ _ hf => hf)
  have E5 := (e5.fresh).keep ((Only.refl (fun _ => False) w).alloc (.cells #[c0, c1, c2, c3, c4, c5, c6, c7, c8, c9, c10, c11, c12, c13] 32)) (fun _ _ _ hf => hf)
  have E6 := (e6.fresh).keep ((Only.refl (fun _ => False) w).alloc (.cells #[c0, c1, c2, c3, c4, c5, c6, c7, c8, c9, c10, c11, c12, c13] 32)) (fun _ _ _ hf => hf)
  have E7 := (e7.fresh).keep ((Only.refl (fun _ => False) w).alloc (.cells #[c0, c1, c2, c3, c4, c5, c6, c7, c8, c9, c10, c11, c12, c13] 32)) (fun _ _ _ hf => hf)
  have E8 := (e8.fresh).keep ((Only.refl (fun _ => False) w).alloc (.cells #[c0, c1, c2, c3, c4, c5, c6, c7, c8, c9, c10, c11, c12, c13] 32)) (fun _ _ _ hf => hf)
  have R0 := Lib.hid hn
  have R1 := Lib.hid (R0.out).next
  have R2 := Lib.hid (R1.out).next
  have R3 := Lib.hid (R2.out).next
  have R4 := Lib.hid (R3.out).next
  have R5 := Lib.hid (R4.out).next
  have R6 := Lib.hid (R5.out).next
  have R7 := Lib.hid (R6.out).next
  have R8 := Lib.hid (R7.out).next
  clear hE hn e0 r0 e1 r1 e2 r2 e3 r3 e4 r4 e5 r5 e6 r6 e7 r7 e8 r8
  go_enter Try.func4, Try.ntmps4
  go_wp2_with fail
  refine (putRatio_any hb c0 c1 (fun k => D k ∧ k < w.heap.size) _ _ n0 t0 _ H0 (S0.apart hD0 (fun k hk => by have := hk.2; simp; omega)) (E0.keep S0.only (fun k _ hk => hD0 k hk)) (R0.out).first).mono ?_
  rintro e w1 ⟨rfl, H1, T1⟩
  have S1 := S0.trans T1
  have b2 := S1.only.cell (p := ⟨w.heap.size, 2, none⟩) (v := c2) (by simp) hbx
  go_wp2_with fail
  refine (putInt_any hb c2 (fun k => D k ∧ k < w.heap.size) _ _ n1 t1 _ H1 (S1.apart hD0 (fun k hk => by have := hk.2; simp; omega)) (E1.keep S1.only (fun k _ hk => hD0 k hk)) (R1.out).first).mono ?_
  rintro e w2 ⟨rfl, H2, T2⟩
  have S2 := S1.trans T2
  have b3 := S2.only.cell (p := ⟨w.heap.size, 3, none⟩) (v := c3) (by simp) hbx
  have b4 := S2.only.cell (p := ⟨w.heap.size, 4, none⟩) (v := c4) (by simp) hbx
  go_wp2_with fail
  refine (putRatio_any hb c3 c4 (fun k => D k ∧ k < w.heap.size) _ _ n2 t2 _ H2 (S2.apart hD0 (fun k hk => by have := hk.2; simp; omega)) (E2.keep S2.only (fun k _ hk => hD0 k hk)) (R2.out).first).mono ?_
  rintro e w3 ⟨rfl, H3, T3⟩
  have S3 := S2.trans T3
  have b5 := S3.only.cell (p := ⟨w.heap.size, 5, none⟩) (v := c5) (by simp) hbx
  have b6 := S3.only.cell (p := ⟨w.heap.size, 6, none⟩) (v := c6) (by simp) hbx
  go_wp2_with fail
  refine (putRatio_any hb c5 c6 (fun k => D k ∧ k < w.heap.size) _ _ n3 t3 _ H3 (S3.apart hD0 (fun k hk => by have := hk.2; simp; omega)) (E3.keep S3.only (fun k _ hk => hD0 k hk)) (R3.out).first).mono ?_
  rintro e w4 ⟨rfl, H4, T4⟩
  have S4 := S3.trans T4
  have b7 := S4.only.cell (p := ⟨w.heap.size, 7, none⟩) (v := c7) (by simp) hbx
  have b8 := S4.only.cell (p := ⟨w.heap.size, 8, none⟩) (v := c8) (by simp) hbx
  go_wp2_with fail
  refine (putOddsPool_any hb c7 c8 (fun k => D k ∧ k < w.heap.size) _ _ n4 t4 _ H4 (S4.apart hD0 (fun k hk => by have := hk.2; simp; omega)) (E4.keep S4.only (fun k _ hk => hD0 k hk)) (R4.out).first).mono ?_
  rintro e w5 ⟨rfl, H5, T5⟩
  have S5 := S4.trans T5
  have b9 := S5.only.cell (p := ⟨w.heap.size, 9, none⟩) (v := c9) (by simp) hbx
  go_wp2_with fail
  refine (putInt_any hb c9 (fun k => D k ∧ k < w.heap.size) _ _ n5 t5 _ H5 (S5.apart hD0 (fun k hk => by have := hk.2; simp; omega)) (E5.keep S5.only (fun k _ hk => hD0 k hk)) (R5.out).first).mono ?_
  rintro e w6 ⟨rfl, H6, T6⟩
  have S6 := S5.trans T6
  have b10 := S6.only.cell (p := ⟨w.heap.size, 10, none⟩) (v := c10) (by simp) hbx
  have b11 := S6.only.cell (p := ⟨w.heap.size, 11, none⟩) (v := c11) (by simp) hbx
  go_wp2_with fail
  refine (putOddsMarket_any hb c10 c11 (fun k => D k ∧ k < w.heap.size) _ _ n6 t6 _ H6 (S6.apart hD0 (fun k hk => by have := hk.2; simp; omega)) (E6.keep S6.only (fun k _ hk => hD0 k hk)) (R6.out).first).mono ?_
  rintro e w7 ⟨rfl, H7, T7⟩
  have S7 := S6.trans T7
  have b12 := S7.only.cell (p := ⟨w.heap.size, 12, none⟩) (v := c12) (by simp) hbx
  go_wp2_with fail
  refine (putInt64s_any hb c12 (fun k => D k ∧ k < w.heap.size) _ _ n7 t7 _ H7 (S7.apart hD0 (fun k hk => by have := hk.2; simp; omega)) (E7.keep S7.only (fun k _ hk => hD0 k hk)) (R7.out).first).mono ?_
  rintro e w8 ⟨rfl, H8, T8⟩
  have S8 := S7.trans T8
  have b13 := S8.only.cell (p := ⟨w.heap.size, 13, none⟩) (v := c13) (by simp) hbx
  go_wp2_with fail
  refine (putInt64s_any hb c13 (fun k => D k ∧ k < w.heap.size) _ _ n8 t8 _ H8 (S8.apart hD0 (fun k hk => by have := hk.2; simp; omega)) (E8.keep S8.only (fun k _ hk => hD0 k hk)) (R8.out).first).mono ?_
  rintro e w9 ⟨rfl, H9, T9⟩
  have S9 := S8.trans T9
  go_wp2
  go_end0
  exact ⟨rfl, by simpa using H9, ((Step.refl hb w).alloc hlt _).trans S9⟩

end Go.Proofs.Ythnjfekkngpbjaa

/- Numbers within bounds. -/
namespace Go.Proofs.Ythnjfekkngpbjaa
open Go.RowKit

abbrev Pure (w w' : World) : Prop := Only (fun _ => False) w w'

/-- A slice of numbers, read. -/
def Ints (D : Nat → Prop) (w : World) (v : Value) (l : List Int) : Prop :=
  ∃ a len cap, v = .slice a len cap ∧ len = l.length ∧ len ≤ cap ∧ len ≤ 9223372036854775807 ∧ ∀ i, i < len → ∃ b off, a = some ⟨b, off, none⟩ ∧ D b ∧ w.cell? ⟨b, off + i, none⟩ = some (.int .i64 (l[i]?.getD 0))

theorem Ints.keep {D S : Nat → Prop} {w w' : World} {v : Value} {l : List Int} (h : Ints D w v l) (ho : Only S w w') (hd : ∀ k, D k → ¬ S k) : Ints D w' v l := by
  obtain ⟨a, len, cap, hv, hl, hc, hm, h⟩ := h
  refine ⟨a, len, cap, hv, hl, hc, hm, fun i hi => ?_⟩
  obtain ⟨b, off, ha, hD, hcell⟩ := h i hi
  exact ⟨b, off, ha, hD, ho.cell hcell (hd b hD)⟩
theorem Ints.pure {D : Nat → Prop} {w w' : World} {v : Value} {l : List Int} (h : Ints D w v l) (ho : Pure w w') : Ints D w' v l := h.keep ho (fun _ _ f => f)

def outB (lo hi n : Int) : Bool := decide (n < lo) || decide (hi < n)
def withinB (lo hi : Int) (l : List Int) : Bool := !l.any (outB lo hi)
/-- The first index at which p holds, from i on; -1 if it holds nowhere. -/
def idxFrom {α : Type} (p : α → Bool) : List α → Int → Int
  | [], _ => -1
  | x :: r, i => if p x then i else idxFrom p r (i + 1)
theorem idxFrom_ge {α : Type} (p : α → Bool) (l : List α) : ∀ i : Int, 0 ≤ i → (0 ≤ idxFrom p l i ↔ l.any p = true) := by
  induction l with
  | nil => intro i hi; simp [idxFrom]
  | cons x r ih =>
    intro i hi
    by_cases hx : p x = true
    · simp [idxFrom, hx, hi]
    · simp only [idxFrom, hx, if_false, Bool.false_eq_true, List.any_cons, Bool.false_or]
      exact ih (i + 1) (by omega)
theorem idx_step {α : Type} (p : α → Bool) (l : List α) (i : Nat) (x : α) (h : l[i]? = some x) : idxFrom p (l.drop i) i = if p x then (i : Int) else idxFrom p (l.drop (i + 1)) ((i + 1 : Nat) : Int) := by
  obtain ⟨hlt, rfl⟩ := List.getElem?_eq_some_iff.1 h
  rw [List.drop_eq_getElem_cons hlt]; simp [idxFrom]

set_option maxHeartbeats 400000 in
theorem out_any (B0 B1 : Nat) (n lo hi : Int) (w : World) (h0 : w.cell? ⟨B0, 0, none⟩ = some (.int .i64 lo)) (h1 : w.cell? ⟨B1, 0, none⟩ = some (.int .i64 hi)) :
    Calls Try.prog 79 #[.int .i64 n, .pointer (some ⟨B0, 0, none⟩), .pointer (some ⟨B1, 0, none⟩)] w fun e w' => e = .returned (.bool (outB lo hi n)) ∧ w = w' := by
  by_cases c1 : n < lo
  · go_enter Try.func79, Try.ntmps79
    go_wp2
    go_ret
    exact ⟨by simp [outB, c1], rfl⟩
  · have hf : decide (n < lo) = false := by simpa using c1
    go_enter Try.func79, Try.ntmps79
    go_wp2
    go_ret
    exact ⟨by simp [outB, hf], rfl⟩

set_option maxHeartbeats 400000 in
theorem index_within (D : Nat → Prop) (B0 B1 : Nat) (lo hi : Int) (v : Value) (l : List Int) (w : World) (h0 : w.cell? ⟨B0, 0, none⟩ = some (.int .i64 lo)) (h1 : w.cell? ⟨B1, 0, none⟩ = some (.int .i64 hi)) (hv : Ints D w v l) :
    Calls Try.prog 95 #[v, .func (.func 79) #[] #[.pointer (some ⟨B0, 0, none⟩), .pointer (some ⟨B1, 0, none⟩)]] w fun e w' => e = .returned (.int .i64 (idxFrom (outB lo hi) l 0)) ∧ w = w' := by
  obtain ⟨a, len, cap, rfl, hlen, _, hm, hc⟩ := hv
  have HL := Lib.hid hlen; clear hlen
  have HC := Lib.hid hc; clear hc
  go_enter Try.func95, Try.ntmps95
  go_wp2
  go_loop [8] (fun i => ∃ k : Nat, k ≤ len ∧ i = .int .i64 k ∧ Hid (idxFrom (outB lo hi) l 0 = idxFrom (outB lo hi) (l.drop k) k)) (fun i => len - (intOf i).toNat)
  case atStart => exact ⟨0, Nat.zero_le _, rfl, Lib.hid (by simp)⟩
  case round =>
    obtain ⟨k, hk, rfl, hI⟩ := hrel
    by_cases hlt : k < len
    · obtain ⟨b, off, rfl, _, hcell⟩ := HC.out k hlt
      have hstep := Lib.hid (idx_step (outB lo hi) l k (l[k]?.getD 0) (by rw [List.getElem?_eq_getElem (by rw [← HL.out]; exact hlt)]; rfl))
      cases hx : outB lo hi (l[k]?.getD 0) with
      | true =>
        go_wp2_with (go_at_call 79; refine (out_any B0 B1 _ lo hi _ h0 h1).mono ?_; rintro e w' ⟨rfl, rfl⟩)
        go_ret
        exact ⟨by rw [hI.out, hstep.out, hx]; rfl, rfl⟩
      | false =>
        go_wp2_with (go_at_call 79; refine (out_any B0 B1 _ lo hi _ h0 h1).mono ?_; rintro e w' ⟨rfl, rfl⟩)
        go_round
        case rel => exact ⟨k + 1, by omega, by go_num, Lib.hid (by rw [hI.out, hstep.out, hx]; rfl)⟩
        case measure => simp [intOf]; omega
    · go_wp2
      go_ret
      have hk' : l.drop k = [] := List.drop_eq_nil_of_le (by rw [← HL.out]; omega)
      exact ⟨by rw [hI.out, hk']; rfl, rfl⟩

set_option maxHeartbeats 400000 in
theorem contains_within (D : Nat → Prop) (B0 B1 : Nat) (lo hi : Int) (v : Value) (l : List Int) (w : World) (h0 : w.cell? ⟨B0, 0, none⟩ = some (.int .i64 lo)) (h1 : w.cell? ⟨B1, 0, none⟩ = some (.int .i64 hi)) (hv : Ints D w v l) :
    Calls Try.prog 78 #[v, .func (.func 79) #[] #[.pointer (some ⟨B0, 0, none⟩), .pointer (some ⟨B1, 0, none⟩)]] w fun e w' => e = .returned (.bool (l.any (outB lo hi))) ∧ w = w' := by
  have hx := idxFrom_ge (outB lo hi) l 0 (Int.le_refl _)
  go_enter Try.func78, Try.ntmps78
  go_wp2_with fail
  refine (index_within D B0 B1 lo hi v l _ h0 h1 hv).mono ?_
  rintro e w' ⟨rfl, rfl⟩
  have hd : decide (0 ≤ idxFrom (outB lo hi) l 0) = l.any (outB lo hi) := by rw [Bool.eq_iff_iff]; simpa using hx
  clear hx
  go_wp2
  go_ret
  exact ⟨by simp [← hd], rfl⟩

theorem Only.of_alloc {S : Nat → Prop} {w w' : World} {o : Obj} (h : Only S (w.alloc o) w') : Only S w w' :=
  ((Only.refl (fun _ => False) w).alloc o |>.mono (S' := S) (fun _ _ f => f.elim)).trans' h (fun _ _ x => x)

set_option maxHeartbeats 400000 in
theorem within_any (D : Nat → Prop) (lo hi : Int) (v : Value) (l : List Int) (w : World) (hv : Ints D w v l) :
    Calls Try.prog 47 #[.int .i64 lo, .int .i64 hi, v] w fun e w' => e = .returned (.bool (withinB lo hi l)) ∧ Pure w w' := by
  have hP : Pure w ((w.alloc (Obj.cells #[Value.int IntKind.i64 lo] 2)).alloc (Obj.cells #[Value.int IntKind.i64 hi] 2)) := ((Only.refl _ w).alloc _).alloc _
  go_enter Try.func47, Try.ntmps47
  go_wp2_with fail
  refine (contains_within D w.heap.size (w.heap.size + 1) lo hi v l _ ?_ ?_ (hv.pure hP)).mono ?_
  · rw [World.cell?_alloc_past _ _ _ (by simp)]; simp
  · simp
  rintro e w' ⟨rfl, rfl⟩
  go_wp2
  go_ret
  exact ⟨rfl, hP⟩

theorem ints1 {w : World} {b : Nat} {x : Int} (h : w.cell? ⟨b, 0, none⟩ = some (.int .i64 x)) : Ints (fun _ => True) w (.slice (some ⟨b, 0, none⟩) 1 1) [x] :=
  ⟨_, 1, 1, rfl, rfl, Nat.le_refl _, by omega, fun i hi => ⟨b, 0, rfl, trivial, by
    obtain rfl : i = 0 := by omega
    simpa using h⟩⟩
theorem ints2 {w : World} {b : Nat} {x y : Int} (h : w.cell? ⟨b, 0, none⟩ = some (.int .i64 x)) (h1 : w.cell? ⟨b, 1, none⟩ = some (.int .i64 y)) : Ints (fun _ => True) w (.slice (some ⟨b, 0, none⟩) 2 2) [x, y] :=
  ⟨_, 2, 2, rfl, rfl, Nat.le_refl _, by omega, fun i hi => ⟨b, 0, rfl, trivial, by
    rcases (by omega : i = 0 ∨ i = 1) with rfl | rfl
    · simpa using h
    · simpa using h1⟩⟩
theorem within_one (lo hi x : Int) (b : Nat) (w : World) (h : w.cell? ⟨b, 0, none⟩ = some (.int .i64 x)) :
    Calls Try.prog 47 #[.int .i64 lo, .int .i64 hi, .slice (some ⟨b, 0, none⟩) 1 1] w fun e w' => e = .returned (.bool (withinB lo hi [x])) ∧ Pure w w' := within_any _ lo hi _ _ w (ints1 h)
theorem within_two (lo hi x y : Int) (b : Nat) (w : World) (h : w.cell? ⟨b, 0, none⟩ = some (.int .i64 x)) (h1 : w.cell? ⟨b, 1, none⟩ = some (.int .i64 y)) :
    Calls Try.prog 47 #[.int .i64 lo, .int .i64 hi, .slice (some ⟨b, 0, none⟩) 2 2] w fun e w' => e = .returned (.bool (withinB lo hi [x, y])) ∧ Pure w w' := within_any _ lo hi _ _ w (ints2 h h1)

end Go.Proofs.Ythnjfekkngpbjaa

/- Rows of a call's own: kept, read, and handed back. -/
namespace Go.Proofs.Ythnjfekkngpbjaa
open Go.RowKit

theorem pure_grown {w w' : World} (h : Pure w w') : w.grownBy w' none := ⟨h.os, h.tape, h.output, h.size, fun k hk _ => h.block k hk (fun f => f)⟩
theorem pure_of_grown {w w' : World} (h : w.grownBy w' none) : Pure w w' := (Only.refl _ w).grown h (fun k e => by cases e)
theorem pure_of_below {w w' : World} (h : Below w.heap.size w w') : Pure w w' := (Only.below h).mono (fun k hk hb => by omega)
theorem below_of_pure {B : Nat} {w w' : World} (h : Pure w w') (hB : B ≤ w.heap.size) : Below B w w' := h.toBelow hB (fun _ _ f => f)
theorem pure_drewN (w : World) (n : Nat) : Pure w (w.drewN n) := (Only.refl _ w).drewN n

theorem owns_keep {w w' : World} {S : Nat → Prop} {B : Nat} {e : TypeId} {s n : Nat} {v : Value} {xs : List Value} (h : w.ownsRow B e s v n xs) (ho : Only S w w') (hs : ∀ k, v.ownBlock = some k → ¬ S k) : w'.ownsRow B e s v n xs := by
  refine ⟨h.1, ?_⟩
  rcases h.2 with hn | ⟨g, cap, cur, rfl, hb, hg, rest⟩
  · exact .inl hn
  · exact .inr ⟨g, cap, cur, rfl, hb, ho.heap hg (hs g rfl), rest⟩
theorem owns_pure {w w' : World} {B : Nat} {e : TypeId} {s n : Nat} {v : Value} {xs : List Value} (h : w.ownsRow B e s v n xs) (ho : Pure w w') : w'.ownsRow B e s v n xs := owns_keep h ho (fun _ _ f => f)
theorem owns_le {w : World} {B B' : Nat} {e : TypeId} {s n : Nat} {v : Value} {xs : List Value} (h : w.ownsRow B e s v n xs) (hb : B' ≤ B) : w.ownsRow B' e s v n xs := by
  refine ⟨h.1, ?_⟩
  rcases h.2 with hn | ⟨g, cap, cur, hv, hbg, rest⟩
  · exact .inl hn
  · exact .inr ⟨g, cap, cur, hv, Nat.le_trans hb hbg, rest⟩
/-- The shape of a row's slice. -/
theorem owns_form {w : World} {B : Nat} {e : TypeId} {s n : Nat} {v : Value} {xs : List Value} (h : w.ownsRow B e s v n xs) :
    ∃ ao ac, v = .slice ao n ac ∧ n ≤ ac ∧ ac ≤ maxLen ∧ (ao = none → n = 0 ∧ ac = 0) ∧ (∀ b, ao = some b → ∃ g, b = ⟨g, 0, none⟩ ∧ B ≤ g ∧ g < w.heap.size) := by
  rcases h.2 with ⟨rfl, rfl⟩ | ⟨g, cap, cur, rfl, hb, hg, hle, hm, _⟩
  · exact ⟨none, 0, rfl, Nat.le_refl _, Nat.zero_le _, fun _ => ⟨rfl, rfl⟩, fun b h => by cases h⟩
  · exact ⟨some ⟨g, 0, none⟩, cap, rfl, hle, hm, (fun h => by cases h), (fun b h => by cases h; exact ⟨g, rfl, hb, lt_of_block hg⟩)⟩
theorem owns_cells {w w' : World} {B : Nat} {e : TypeId} {s n k ac : Nat} {ao : Option Addr} {xs : List Value} (h : w.ownsRow B e s (.slice ao k ac) n xs) (ho : Pure w w') :
    ∀ b, ao = some b → ∀ j u, xs[j]? = some u → w'.cell? (b.add j) = some u := fun b hb j u hj => by
  subst hb
  rcases h.2 with ⟨h', _⟩ | ⟨g, cap', cur, h', hbg, hg, hle, hcm, hcs, htk⟩
  · simp at h'
  · simp only [Value.slice.injEq, Option.some.injEq] at h'
    obtain ⟨rfl, _, rfl⟩ := h'
    exact ho.cell (h.cells rfl j u hj) (fun f => f)
/-- The cells of a row, as a slice that is read. -/
theorem owns_ints {w : World} {B : Nat} {e : TypeId} {v : Value} {l : List Int} (h : w.ownsRow B e 1 v l.length (l.map (.int .i64))) : Ints (fun k => v.ownBlock = some k) w v l := by
  obtain ⟨a, len, cap, rfl, hl, hc, hm, hh⟩ := (ownsRow_slice h).ints
  exact ⟨a, len, cap, rfl, hl, hc, hm, hh⟩
theorem owns_lt {w : World} {B : Nat} {e : TypeId} {s n : Nat} {v : Value} {xs : List Value} (h : w.ownsRow B e s v n xs) : ∀ k, v.ownBlock = some k → B ≤ k ∧ k < w.heap.size := fun k hk => by
  rcases h.2 with ⟨rfl, _⟩ | ⟨g, cap, cur, rfl, hb, hg, _⟩
  · simp [Value.ownBlock] at hk
  · have : g = k := by simpa [Value.ownBlock] using hk
    subst this; exact ⟨hb, lt_of_block hg⟩
theorem Ints.any {D D' : Nat → Prop} {w : World} {v : Value} {l : List Int} (h : Ints D w v l) (hd : ∀ k, D k → D' k) : Ints D' w v l := by
  obtain ⟨a, len, cap, rfl, hl, hc, hm, hh⟩ := h
  exact ⟨a, len, cap, rfl, hl, hc, hm, fun i hi => by obtain ⟨b, o, e, d, r⟩ := hh i hi; exact ⟨b, o, e, hd b d, r⟩⟩
theorem Ints.form {D : Nat → Prop} {w : World} {v : Value} {l : List Int} (h : Ints D w v l) : ∃ a n c, v = .slice a n c := by obtain ⟨a, n, c, rfl, _⟩ := h; exact ⟨a, n, c, rfl⟩

/-- A block of numbers, as a slice that is read. -/
theorem ints_block {w : World} {b : Nat} {cs : Array Value} {t : TypeId} (l : List Int) (n c : Nat) (h : w.heap[b]? = some (.cells cs t (0, 0))) (hn : n = l.length) (hle : n ≤ c) (hc : cs.toList.take n = l.map (.int .i64)) (hm : n ≤ 9223372036854775807) : Ints (fun k => k = b) w (.slice (some ⟨b, 0, none⟩) n c) l := by
  refine ⟨_, n, c, rfl, hn, hle, hm, fun i hi => ⟨b, 0, rfl, rfl, ?_⟩⟩
  rw [Nat.zero_add, cell_of_row _ _ _ _ _ _ h, ← Array.getElem?_toList]
  have h2 : (cs.toList.take n)[i]? = (l.map (.int .i64))[i]? := by rw [hc]
  rw [List.getElem?_take_of_lt hi] at h2
  rw [h2]
  subst hn
  simp [hi]
theorem ints3 {w : World} {b : Nat} {x y z : Int} (h : w.cell? ⟨b, 0, none⟩ = some (.int .i64 x)) (h1 : w.cell? ⟨b, 1, none⟩ = some (.int .i64 y)) (h2 : w.cell? ⟨b, 2, none⟩ = some (.int .i64 z)) : Ints (fun _ => True) w (.slice (some ⟨b, 0, none⟩) 3 3) [x, y, z] :=
  ⟨_, 3, 3, rfl, rfl, Nat.le_refl _, by omega, fun i hi => ⟨b, 0, rfl, trivial, by
    rcases (by omega : i = 0 ∨ i = 1 ∨ i = 2) with rfl | rfl | rfl
    · simpa using h
    · simpa using h1
    · simpa using h2⟩⟩
theorem within_three (lo hi x y z : Int) (b : Nat) (w : World) (h : w.cell? ⟨b, 0, none⟩ = some (.int .i64 x)) (h1 : w.cell? ⟨b, 1, none⟩ = some (.int .i64 y)) (h2 : w.cell? ⟨b, 2, none⟩ = some (.int .i64 z)) :
    Calls Try.prog 47 #[.int .i64 lo, .int .i64 hi, .slice (some ⟨b, 0, none⟩) 3 3] w fun e w' => e = .returned (.bool (withinB lo hi [x, y, z])) ∧ Pure w w' := within_any _ lo hi _ _ w (ints3 h h1 h2)

/-- A row that a call owns, as a slice that is read. -/
theorem owns_slice {w : World} {base : Nat} {e : TypeId} {s : Nat} {v : Value} {n : Nat} {xs : List Value} (h : w.ownsRow base e s v n xs) : SliceAt (fun k => v.ownBlock = some k) w v s xs := by
  obtain ⟨hl, h2⟩ := h
  rcases h2 with ⟨rfl, rfl⟩ | ⟨g, cap, cur, rfl, hb, hg, hn, hm, hcur, htake⟩
  · exact ⟨none, 0, 0, rfl, hl, Nat.le_refl _, Nat.zero_le _, fun h => absurd h (by omega)⟩
  · refine ⟨_, n, cap, rfl, hl, hn, hm, fun _ => ⟨g, 0, rfl, rfl, fun j u hu => ?_⟩⟩
    rw [Nat.zero_add, cell_of_row w g j cur e (0, 0) hg]
    rw [← htake, List.getElem?_take] at hu
    split at hu
    · simpa using hu
    · cases hu
/-- A slice of pairs of numbers, read. -/
def Pairs (D : Nat → Prop) (w : World) (v : Value) (l : List (Int × Int)) : Prop :=
  ∃ a len cap, v = .slice a len cap ∧ len = l.length ∧ len ≤ cap ∧ len ≤ 9223372036854775807 ∧ ∀ i, i < len → ∃ b off, a = some ⟨b, off, none⟩ ∧ D b ∧
    w.cell? ⟨b, off + i * 2, none⟩ = some (.int .i64 (l[i]?.getD (0, 0)).1) ∧ w.cell? ⟨b, off + i * 2 + 1, none⟩ = some (.int .i64 (l[i]?.getD (0, 0)).2)
theorem Pairs.keep {D S : Nat → Prop} {w w' : World} {v : Value} {l : List (Int × Int)} (h : Pairs D w v l) (ho : Only S w w') (hd : ∀ k, D k → ¬ S k) : Pairs D w' v l := by
  obtain ⟨a, len, cap, hv, hl, hc, hm, h⟩ := h
  refine ⟨a, len, cap, hv, hl, hc, hm, fun i hi => ?_⟩
  obtain ⟨b, off, ha, hD, hcell, hcell2⟩ := h i hi
  exact ⟨b, off, ha, hD, ho.cell hcell (hd b hD), ho.cell hcell2 (hd b hD)⟩
theorem Pairs.pure {D : Nat → Prop} {w w' : World} {v : Value} {l : List (Int × Int)} (h : Pairs D w v l) (ho : Pure w w') : Pairs D w' v l := h.keep ho (fun _ _ f => f)
def pairC (p : Int × Int) : List Value := [.int .i64 p.1, .int .i64 p.2]
theorem pairs_flat (l : List (Int × Int)) : (l.flatMap pairC).length = l.length * 2 := flat_length pairC 2 l (fun _ _ => rfl)
theorem SliceAt.pairs {D : Nat → Prop} {w : World} {v : Value} {l : List (Int × Int)} (h : SliceAt D w v 2 (l.flatMap pairC)) : Pairs D w v l := by
  obtain ⟨a, len, cap, rfl, hl, hlc, hm, hc⟩ := h
  rw [pairs_flat] at hl
  have hll : len = l.length := by omega
  refine ⟨a, len, cap, rfl, hll, hlc, by unfold maxLen at hm; omega, fun i hi => ?_⟩
  obtain ⟨b, off, ha, hD, hcell⟩ := hc (by omega)
  have hi' : i < l.length := by omega
  have g0 := flat_get pairC 2 l (fun _ _ => rfl) i 0 hi' (by decide)
  have g1 := flat_get pairC 2 l (fun _ _ => rfl) i 1 hi' (by decide)
  have e : l[i]?.getD (0, 0) = l[i] := by rw [List.getElem?_eq_getElem hi']; rfl
  rw [e]
  exact ⟨b, off, ha, hD, hcell _ _ g0, by rw [Nat.add_assoc]; exact hcell _ _ g1⟩
theorem new_cell (W : World) (cs : Array Value) (t : TypeId) (n i : Nat) (v : Value) (h : n = W.heap.size) (hv : cs[i]? = some v) : (W.alloc (.cells cs t)).cell? ⟨n, i, none⟩ = some v := by
  subst h; rw [cell_of_row _ _ _ _ _ _ (World.alloc_heap_new W _)]; exact hv
theorem owns_full {w : World} {B : Nat} {e : TypeId} {g n : Nat} {xs : List Value} (h : w.ownsRow B e 1 (.slice (some ⟨g, 0, none⟩) n n) n xs) : w.heap[g]? = some (.cells xs.toArray e (0, 0)) ∧ B ≤ g := by
  rcases h.2 with ⟨h', _⟩ | ⟨g', cap, cur, h', hb, hg, hle, hm, hcs, htk⟩
  · simp at h'
  · simp only [Value.slice.injEq, Option.some.injEq, Addr.mk.injEq, and_true, true_and] at h'
    obtain ⟨rfl, rfl⟩ := h'
    refine ⟨?_, hb⟩
    rw [hg, ← htk, List.take_of_length_le (by simpa using Nat.le_of_eq hcs)]
theorem owns_mk {w : World} {B : Nat} {e : TypeId} {g n : Nat} {xs : List Value} (h : w.heap[g]? = some (.cells xs.toArray e (0, 0))) (hb : B ≤ g) (hn : xs.length = n) (hm : n ≤ maxLen) : w.ownsRow B e 1 (.slice (some ⟨g, 0, none⟩) n n) n xs :=
  ⟨by omega, .inr ⟨g, n, xs.toArray, rfl, hb, h, Nat.le_refl _, hm, by simp [hn], by rw [List.take_of_length_le (by simp [hn])]⟩⟩
theorem made_zeros (n : Nat) : (madeCells (Value.int .i64 0).cells (n * 1)).toList = (List.replicate n (0 : Int)).map (.int .i64) := by
  rw [Nat.mul_one, List.map_replicate]
  apply List.ext_getElem
  · simp [madeCells, Value.cells]
  · intro i h1 h2; simp [madeCells, Value.cells, Nat.mod_one]
theorem made_zeros1 (n : Nat) : (madeCells #[Value.int .i64 0] n).toList = (List.replicate n (0 : Int)).map (.int .i64) := by
  have := made_zeros n; rw [Nat.mul_one] at this; exact this
theorem splice_all (cur cs : List Value) (h : cs.length = cur.length) : splice cur 0 cs = cs := by unfold splice; simp [h]
theorem infoI64 : (Try.prog.info? 2).map (fun i => (i.zero, i.size, i.bytes)) = some (some (.int .i64 0), 1, 8) := by kernel_rfl
end Go.Proofs.Ythnjfekkngpbjaa

/- Arrays of numbers: as equal, as written, as cleared. -/
namespace Go.Proofs.Ythnjfekkngpbjaa
open Go.RowKit
section
variable {P : Program}
theorem drops_eq (xs ys : List Int) (j : Nat) (hx : j < xs.length) (hy : j < ys.length) : decide (xs.drop j = ys.drop j) = (decide (xs[j] = ys[j]) && decide (xs.drop (j + 1) = ys.drop (j + 1))) := by
  have h1 : (xs.drop j = ys.drop j) ↔ (xs[j] = ys[j] ∧ xs.drop (j + 1) = ys.drop (j + 1)) := by
    rw [List.drop_eq_getElem_cons hx, List.drop_eq_getElem_cons hy, List.cons.injEq]
  rw [Bool.eq_iff_iff]; simpa using h1
theorem run_eqItems_ints (d : Nat) (w : World) {e : TypeId} {k : IntKind} (he : P.underlying e = some (.int k)) (hp : P.plainKey e = true) (hc : P.cellsOf e = 1) (xs ys : List Int) : ∀ (m j : Nat), j + m = xs.length → j + m = ys.length →
    (Op.eqItems (d + 1) e (P.cellsOf e) (xs.map (Value.int k)).toArray (ys.map (Value.int k)).toArray (List.range' j m)).run P w = .ok (decide (xs.drop j = ys.drop j)) w
  | 0, j, hx, hy => by
    rw [List.drop_of_length_le (by omega), List.drop_of_length_le (by omega)]
    simp [Op.eqItems]
  | m + 1, j, hx, hy => by
    have ih := run_eqItems_ints d w he hp hc xs ys m (j + 1) (by omega) (by omega)
    have hjx : j < xs.length := by omega
    have hjy : j < ys.length := by omega
    have p1 : (part e (xs.map (Value.int k)).toArray (j * P.cellsOf e)).run P w = .ok (.int k xs[j]) w := run_part_plain w hp (by rw [hc]; simp [hjx])
    have p2 : (part e (ys.map (Value.int k)).toArray (j * P.cellsOf e)).run P w = .ok (.int k ys[j]) w := run_part_plain w hp (by rw [hc]; simp [hjy])
    rw [List.range'_succ, drops_eq xs ys j hjx hjy]
    simp only [Op.eqItems, Sem.run_bind, p1, p2, Result.andThen_ok]
    by_cases h : xs[j] = ys[j]
    · have : (Op.equalIn (d + 1) e (Value.int k xs[j]) (Value.int k ys[j])).run P w = .ok true w := by simp only [Op.equalIn, Sem.run_bind, run_underlying he, Result.andThen_ok]; simp [h]
      rw [this]
      simp only [Result.andThen_ok, Bool.not_true, Bool.false_eq_true, if_false, ih, h, decide_true, Bool.true_and]
    · have : (Op.equalIn (d + 1) e (Value.int k xs[j]) (Value.int k ys[j])).run P w = .ok false w := by simp only [Op.equalIn, Sem.run_bind, run_underlying he, Result.andThen_ok]; simp [h]
      rw [this]
      simp [h]
theorem run_equal_ints (w : World) {t e : TypeId} {n : Nat} {i : TypeInfo} {k : IntKind} (hu : P.underlying t = some (.array n e)) (hi : P.info? e = some i) (he : P.underlying e = some (.int k)) (hp : P.plainKey e = true) (hc : P.cellsOf e = 1)
    (xs ys : List Int) (hx : xs.length = n) (hy : ys.length = n) :
    (Op.equalIn 10000 t (.agg (xs.map (Value.int k)).toArray) (.agg (ys.map (Value.int k)).toArray)).run P w = .ok (decide (xs = ys)) w := by
  refine (run_equalIn_array w 9999 _ _ hu hi).trans ?_
  have := run_eqItems_ints 9998 w he hp hc xs ys n 0 (by omega) (by omega)
  rw [← List.range_eq_range'] at this
  simpa using this
end

/-- 'clear' of a part of a row. -/
theorem run_clear_row {P : Program} (w : World) (t e ty : TypeId) (z : Value) (ht : P.underlying t = some (.slice e)) (hv : (zeroValue e).run P w = .ok z w) (hz : z.cells = #[z]) (h1 : z.oneCell' = true)
    (g o n c : Nat) (cur : Array Value) (te : TypeId) (hg : w.heap[g]? = some (.cells cur te (0, 0))) (hn : 0 < n) (hfit : o + n ≤ cur.size) :
    ∃ w', (Builtin.clear_ #[t] ty #[.slice (some ⟨g, o, none⟩) n c]).run P w = .ok (.tuple #[]) w' ∧ Only (fun k => k = g) w w' ∧ w'.heap[g]? = some (.cells (cur.toList.take o ++ List.replicate n z ++ cur.toList.drop (o + n)).toArray te (0, 0)) := by
  have hzc : (Builtin.zeroCells z.cells n).toList = List.replicate n z := by
    rw [hz]
    simp [Builtin.zeroCells]
    apply List.ext_getElem
    · simp
    · intro i h1 h2
      simp [Nat.mod_one]
  have hst := run_storeCells_at P g o te (List.replicate n z) 0 cur w hg (by simpa using hfit) (by intro v hv'; rw [List.eq_of_mem_replicate hv']; exact h1)
  simp only [Nat.add_zero, List.length_replicate] at hst
  obtain ⟨m, rfl⟩ : ∃ m, n = m + 1 := ⟨n - 1, by omega⟩
  refine ⟨_, by simp [Builtin.clear_, run_underlying ht, hv, hzc, hst]; rfl, ?_, ?_⟩
  · exact ⟨rfl, rfl, rfl, by simp [World.setRow], fun k hk hn => by simp only [World.setRow]; rw [Array.getElem?_modify, if_neg (Ne.symm hn)]⟩
  · simp only [World.setRow]
    rw [Array.getElem?_modify]
    simp [hg]
theorem arr_set {k : IntKind} (l : List Int) (i : Nat) (x : Int) : (l.map (Value.int k)).toArray.setIfInBounds i (.int k x) = ((l.set i x).map (Value.int k)).toArray := by
  rw [List.setIfInBounds_toArray, List.map_set]
theorem arr_get {w : World} {g : Nat} {k : IntKind} {l : List Int} {t : TypeId} (h : w.heap[g]? = some (.cells (l.map (Value.int k)).toArray t (0, 0))) (i : Nat) (hi : i < l.length) : w.cell? ⟨g, i, none⟩ = some (.int k (l[i]?.getD 0)) := by
  rw [cell_of_row _ _ _ _ _ _ h]; simp [hi]
theorem arr_frozen {w : World} {g : Nat} {cs : Array Value} {t : TypeId} (h : w.heap[g]? = some (.cells cs t (0, 0))) (i : Nat) : w.frozen? ⟨g, i, none⟩ = false := by simp [World.frozen?, h]
theorem arr_store {w : World} {g : Nat} {k : IntKind} {l : List Int} {t : TypeId} (h : w.heap[g]? = some (.cells (l.map (Value.int k)).toArray t (0, 0))) (i : Nat) (x : Int) :
    (w.setCell ⟨g, i, none⟩ (.int k x)).heap[g]? = some (.cells ((l.set i x).map (Value.int k)).toArray t (0, 0)) := by
  rw [← arr_set]; exact heap_setCell_same _ _ i _ _ _ h
end Go.Proofs.Ythnjfekkngpbjaa

/- Maps that a call makes, as functions from keys to values: look-up, store, delete, length, and a range over one in whatever order. -/
namespace Go.Proofs.Ythnjfekkngpbjaa
open Go.RowKit
set_option linter.unusedSectionVars false

section
variable {P : Program} {K : TypeId} {κ : Type} [DecidableEq κ] {kv : κ → Value}

/-- What is wanted of a key's type. -/
structure KeyLaw (P : Program) (K : TypeId) {κ : Type} [DecidableEq κ] (kv : κ → Value) : Prop where
  inj : ∀ a b, kv a = kv b → a = b
  check : ∀ em x w, (Instr.checkKey em 10000 K (kv x)).run P w = .ok () w
  eq : ∀ x y w, (Op.equal K (kv x) (kv y)).run P w = .ok (decide (x = y)) w
  now : ∃ d, P.underlying K = some d ∧ ((∀ x y, Instr.sameNow d (kv x) (kv y) = none) ∨ (∀ x y, Instr.sameNow d (kv x) (kv y) = some (decide (x = y))))
  bits : ∀ x, Instr.sameBits 10000 (kv x) (kv x) = true

def ent (kv : κ → Value) (e : κ × Value × Nat) : MapEntry := ⟨kv e.1, e.2.1, e.2.2⟩
def hit (x : κ) : List (κ × Value × Nat) → Nat → Option (Nat × Value)
  | [], _ => none
  | e :: r, i => if x = e.1 then some (i, e.2.1) else hit x r (i + 1)

theorem run_asking (L : KeyLaw P K kv) (x : κ) (w : World) : ∀ (E : List (κ × Value × Nat)) (i : Nat), (Instr.findAsking K (kv x) (E.map (ent kv)) i).run P w = .ok (hit x E i) w
  | [], i => rfl
  | e :: r, i => by
    simp only [List.map_cons, Instr.findAsking, Sem.run_bind, ent, L.eq, Result.andThen, hit]
    by_cases h : x = e.1
    · simp only [h, decide_true, if_true]; rfl
    · simp only [h, decide_false, if_false, Bool.false_eq_true]; exact run_asking L x w r (i + 1)
theorem now_some {d : TypeDesc} (h : ∀ x y : κ, Instr.sameNow d (kv x) (kv y) = some (decide (x = y))) (x : κ) : ∀ (E : List (κ × Value × Nat)) (i : Nat), Instr.findNow d (kv x) (E.map (ent kv)) i = some (hit x E i)
  | [], i => rfl
  | e :: r, i => by
    simp only [List.map_cons, Instr.findNow, ent, h, hit]
    by_cases hx : x = e.1
    · simp [hx]
    · simp only [hx, decide_false, if_false]; exact now_some h x r (i + 1)
theorem run_find (L : KeyLaw P K kv) (x : κ) (w : World) (E : List (κ × Value × Nat)) : (Instr.findKey K (kv x) (E.map (ent kv))).run P w = .ok (hit x E 0) w := by
  obtain ⟨d, hd, hn⟩ := L.now
  simp only [Instr.findKey, Sem.run_bind, run_underlying hd, Result.andThen]
  rcases hn with hn | hn
  · cases E with
    | nil => rfl
    | cons e r =>
      have : Instr.findNow d (kv x) ((e :: r).map (ent kv)) 0 = none := by simp [Instr.findNow, ent, hn]
      rw [this]; exact run_asking L x w _ 0
  · rw [now_some hn]; rfl

/-- What a list of entries holds at a key. -/
def look (E : List (κ × Value × Nat)) (x : κ) : Option Value := (E.find? (fun e => x = e.1)).map (·.2.1)
theorem hit_look (x : κ) : ∀ (E : List (κ × Value × Nat)) (i : Nat), (hit x E i).map (·.2) = look E x
  | [], _ => rfl
  | e :: r, i => by
    simp only [hit, look, List.find?_cons]
    by_cases h : x = e.1
    · simp [h]
    · simp only [h, if_false, decide_false]; exact hit_look x r (i + 1)
theorem hit_some {x : κ} : ∀ {E : List (κ × Value × Nat)} {i j : Nat} {v : Value}, hit x E i = some (j, v) → ∃ k e, j = i + k ∧ E[k]? = some e ∧ e.1 = x ∧ e.2.1 = v
  | [], _, _, _, h => by cases h
  | e :: r, i, j, v, h => by
    simp only [hit] at h
    by_cases hx : x = e.1
    · simp only [hx, if_true, Option.some.injEq, Prod.mk.injEq] at h
      exact ⟨0, e, h.1.symm, rfl, hx.symm, h.2⟩
    · simp only [hx, if_false] at h
      obtain ⟨k, e', hj, he, h1, h2⟩ := hit_some h
      exact ⟨k + 1, e', by omega, by simpa using he, h1, h2⟩
theorem hit_none {x : κ} : ∀ {E : List (κ × Value × Nat)} {i : Nat}, hit x E i = none → ∀ e ∈ E, e.1 ≠ x
  | [], _, _ => by simp
  | e :: r, i, h => by
    simp only [hit] at h
    by_cases hx : x = e.1
    · simp [hx] at h
    · simp only [hx, if_false] at h
      intro e' he
      rcases List.mem_cons.1 he with rfl | he
      · exact fun q => hx q.symm
      · exact hit_none h e' he
theorem look_mem {E : List (κ × Value × Nat)} (hn : (E.map (·.1)).Nodup) {e : κ × Value × Nat} (he : e ∈ E) : look E e.1 = some e.2.1 := by
  induction E with
  | nil => cases he
  | cons a r ih =>
    simp only [List.map_cons, List.nodup_cons] at hn
    simp only [look, List.find?_cons]
    rcases List.mem_cons.1 he with rfl | he
    · simp
    · have : e.1 ≠ a.1 := fun q => hn.1 (q ▸ List.mem_map.2 ⟨e, he, rfl⟩)
      simp only [this, decide_false]; exact ih hn.2 he
theorem look_none {E : List (κ × Value × Nat)} {x : κ} (h : ∀ e ∈ E, e.1 ≠ x) : look E x = none := by
  simp only [look, Option.map_eq_none_iff, List.find?_eq_none]
  intro e he; simpa using fun q => h e he q.symm
theorem look_some {E : List (κ × Value × Nat)} {x : κ} {v : Value} (h : look E x = some v) : ∃ e ∈ E, e.1 = x ∧ e.2.1 = v := by
  simp only [look, Option.map_eq_some_iff] at h
  obtain ⟨e, he, hv⟩ := h
  have h1 : decide (x = e.1) = true := List.find?_some (p := fun e : κ × Value × Nat => decide (x = e.1)) he
  exact ⟨e, List.mem_of_find?_eq_some he, (of_decide_eq_true h1).symm, hv⟩

/-- A block that is a map with these entries. -/
structure MapIs (kv : κ → Value) (w : World) (b : Nat) (E : List (κ × Value × Nat)) (clock : Nat) : Prop where
  heap : w.heap[b]? = some (.map (E.map (ent kv)).toArray clock)
  keys : (E.map (·.1)).Nodup
  born : (E.map (·.2.2)).Nodup
  lt : ∀ e ∈ E, e.2.2 < clock
/-- A block that is a map, as a function. -/
def MapF (kv : κ → Value) (w : World) (b : Nat) (f : κ → Option Value) : Prop := ∃ E clock, MapIs kv w b E clock ∧ ∀ x, f x = look E x

def upd (f : κ → Option Value) (x : κ) (v : Option Value) : κ → Option Value := fun y => if y = x then v else f y

theorem MapF.lt {w : World} {b : Nat} {f : κ → Option Value} (h : MapF kv w b f) : b < w.heap.size := by
  obtain ⟨E, c, hm, _⟩ := h; exact lt_of_block hm.heap
theorem MapF.keep {w w' : World} {S : Nat → Prop} {b : Nat} {f : κ → Option Value} (h : MapF kv w b f) (ho : Only S w w') (hs : ¬ S b) : MapF kv w' b f := by
  obtain ⟨E, c, hm, hf⟩ := h; exact ⟨E, c, ⟨ho.heap hm.heap hs, hm.keys, hm.born, hm.lt⟩, hf⟩
theorem MapF.made (kv : κ → Value) (w : World) : MapF kv (w.alloc (.map #[] 0)) w.heap.size (fun _ => none) :=
  ⟨[], 0, ⟨by simpa using heap_alloc_new w _, by simp, by simp, by simp⟩, fun _ => rfl⟩
theorem MapF.congr {w : World} {b : Nat} {f g : κ → Option Value} (h : MapF kv w b f) (e : ∀ x, f x = g x) : MapF kv w b g := by
  obtain ⟨E, c, hm, hf⟩ := h; exact ⟨E, c, hm, fun x => (e x).symm.trans (hf x)⟩

theorem run_check_map {T e : TypeId} (w : World) (L : KeyLaw P K kv) (x : κ) (em : Bool) : (Instr.checkKey em 10000 K (kv x)).run P w = .ok () w := L.check em x w

theorem MapF.look {T el : TypeId} {w : World} {b : Nat} {f : κ → Option Value} (h : MapF kv w b f) (L : KeyLaw P K kv) (hT : P.underlying T = some (.map K el)) {z : Value} (hz : (zeroValue el).run P w = .ok z w) (x : κ) :
    (Instr.lookup T (.map (some b)) (kv x) false).run P w = .ok ((f x).getD z) w := by
  obtain ⟨E, c, hm, hf⟩ := h
  have hh := hit_look x E 0
  rw [← hf] at hh
  simp only [Instr.lookup, Sem.run_bind, run_underlying hT, Result.andThen, MapKept.run_getObj_map hm.heap, Sem.run_pure, L.check, run_find L]
  cases hx : hit x E 0 with
  | none => rw [hx] at hh; simp only [Option.map_none] at hh; simp [← hh, hz]
  | some p => rw [hx] at hh; simp only [Option.map_some] at hh; simp [← hh]
theorem MapF.lookOk {T el : TypeId} {w : World} {b : Nat} {f : κ → Option Value} (h : MapF kv w b f) (L : KeyLaw P K kv) (hT : P.underlying T = some (.map K el)) {z : Value} (hz : (zeroValue el).run P w = .ok z w) (x : κ) :
    (Instr.lookup T (.map (some b)) (kv x) true).run P w = .ok (.tuple #[(f x).getD z, .bool (f x).isSome]) w := by
  obtain ⟨E, c, hm, hf⟩ := h
  have hh := hit_look x E 0
  rw [← hf] at hh
  simp only [Instr.lookup, Sem.run_bind, run_underlying hT, Result.andThen, MapKept.run_getObj_map hm.heap, Sem.run_pure, L.check, run_find L]
  cases hx : hit x E 0 with
  | none => rw [hx] at hh; simp only [Option.map_none] at hh; simp [← hh, hz]
  | some p => rw [hx] at hh; simp only [Option.map_some] at hh; simp [← hh]

theorem putObj_only (w : World) (b : Nat) (o : Obj) : Only (fun k => k = b) w (w.putObj b o) :=
  ⟨rfl, rfl, rfl, by simp [World.putObj], fun k _ hn => World.putObj_heap_other hn⟩
theorem putObj_at {w : World} {b : Nat} {o o' : Obj} (h : w.heap[b]? = some o) : (w.putObj b o').heap[b]? = some o' := by
  have := lt_of_block h; simp [World.putObj, this]

theorem MapF.update {T el : TypeId} {w : World} {b : Nat} {f : κ → Option Value} (h : MapF kv w b f) (L : KeyLaw P K kv) (hT : P.underlying T = some (.map K el)) (x : κ) (v : Value) :
    ∃ o, (Instr.mapUpdate T (.map (some b)) (kv x) v).run P w = .ok () (w.putObj b o) ∧ MapF kv (w.putObj b o) b (upd f x (some v)) := by
  obtain ⟨E, c, hm, hf⟩ := h
  simp only [Instr.mapUpdate, Sem.run_bind, run_underlying hT, Result.andThen, MapKept.run_getObj_map hm.heap, L.check, run_find L]
  cases hx : hit x E 0 with
  | none =>
    refine ⟨_, MapKept.run_setObj_map _ hm.heap, E ++ [(x, v, c)], c + 1, ⟨?_, ?_, ?_, ?_⟩, ?_⟩
    · have := putObj_at (o' := .map ((E.map (ent kv)).toArray.push { key := kv x, val := v, born := c }) (c + 1)) hm.heap
      rw [this]; simp [ent]
    · have hne := hit_none hx
      simp only [List.map_append, List.map_cons, List.map_nil, List.nodup_append]
      refine ⟨hm.keys, by simp, fun a ha b' hb' => ?_⟩
      simp only [List.mem_singleton] at hb'; subst hb'
      obtain ⟨e, he, rfl⟩ := List.mem_map.1 ha
      exact hne e he
    · simp only [List.map_append, List.map_cons, List.map_nil, List.nodup_append]
      refine ⟨hm.born, by simp, fun a ha b' hb' => ?_⟩
      simp only [List.mem_singleton] at hb'; subst hb'
      obtain ⟨e, he, rfl⟩ := List.mem_map.1 ha
      exact Nat.ne_of_lt (hm.lt e he)
    · intro e he
      rcases List.mem_append.1 he with he | he
      · exact Nat.lt_succ_of_lt (hm.lt e he)
      · simp only [List.mem_singleton] at he; subst he; exact Nat.lt_succ_self _
    · intro y
      have hne := hit_none hx
      simp only [upd, Go.Proofs.Ythnjfekkngpbjaa.look, List.find?_append]
      by_cases hy : y = x
      · subst hy
        have : E.find? (fun e => decide (y = e.1)) = none := by simp only [List.find?_eq_none]; intro e he; simpa using fun q => hne e he q.symm
        simp [this]
      · simp only [hy, if_false, hf, Go.Proofs.Ythnjfekkngpbjaa.look]
        cases hq : E.find? (fun e => decide (y = e.1)) with
        | none => simp [hy]
        | some q => simp
  | some p =>
    obtain ⟨i, v0⟩ := p
    obtain ⟨k, e0, hk, he0, hex, _⟩ := hit_some hx
    obtain rfl : i = k := by omega
    have hget : (((E.map (ent kv)).toArray[i]?).map (·.key)).getD (kv x) = kv x := by simp [he0, ent, hex]
    have hstay : (Instr.keyThatStays (kv x) (kv x)).run P w = .ok (kv x) w := by simp [Instr.keyThatStays, L.bits]
    simp only [hget, Sem.run_bind, hstay, Result.andThen]
    refine ⟨_, MapKept.run_setObj_map _ hm.heap, E.modify i (fun e => (x, v, e.2.2)), c, ⟨?_, ?_, ?_, ?_⟩, ?_⟩
    · rw [putObj_at hm.heap]
      congr 2
      apply Array.ext_getElem?
      intro j
      simp only [Array.getElem?_modify, List.getElem?_toArray, List.getElem?_map, List.getElem?_modify]
      by_cases hij : i = j
      · subst hij; simp [he0, ent]
      · simp [hij]
    · have : (E.modify i (fun e => (x, v, e.2.2))).map (·.1) = E.map (·.1) := by
        apply List.ext_getElem?; intro j
        simp only [List.getElem?_map, List.getElem?_modify]
        by_cases hij : i = j
        · subst hij; simp [he0, hex]
        · simp [hij]
      rw [this]; exact hm.keys
    · have : (E.modify i (fun e => (x, v, e.2.2))).map (·.2.2) = E.map (·.2.2) := by
        apply List.ext_getElem?; intro j
        simp only [List.getElem?_map, List.getElem?_modify]
        by_cases hij : i = j
        · subst hij; simp [he0]
        · simp [hij]
      rw [this]; exact hm.born
    · intro e he
      obtain ⟨j, hj⟩ := List.getElem?_of_mem he
      simp only [List.getElem?_modify] at hj
      by_cases hij : i = j
      · subst hij; simp [he0] at hj; subst hj; exact hm.lt e0 (List.mem_of_getElem? he0)
      · simp [hij] at hj; exact hm.lt e (List.mem_of_getElem? hj)
    · intro y
      have hkeys : ((E.modify i (fun e => (x, v, e.2.2))).map (·.1)).Nodup := by
        have : (E.modify i (fun e => (x, v, e.2.2))).map (·.1) = E.map (·.1) := by
          apply List.ext_getElem?; intro j
          simp only [List.getElem?_map, List.getElem?_modify]
          by_cases hij : i = j
          · subst hij; simp [he0, hex]
          · simp [hij]
        rw [this]; exact hm.keys
      by_cases hy : y = x
      · subst hy
        have hmem : (y, v, e0.2.2) ∈ E.modify i (fun e => (y, v, e.2.2)) := List.mem_of_getElem? (i := i) (by simp [List.getElem?_modify, he0])
        simp only [upd, if_true]; exact (look_mem hkeys hmem).symm
      · simp only [upd, hy, if_false, hf]
        cases hl : Go.Proofs.Ythnjfekkngpbjaa.look E y with
        | some u =>
          obtain ⟨e, he, hey, heu⟩ := look_some hl
          obtain ⟨j, hj⟩ := List.getElem?_of_mem he
          have hij : i ≠ j := fun q => by subst q; rw [he0] at hj; cases hj; exact hy (hey.symm.trans hex)
          have hmem : e ∈ E.modify i (fun e => (x, v, e.2.2)) := List.mem_of_getElem? (i := j) (by simp [List.getElem?_modify, hij, hj])
          have := look_mem hkeys hmem
          rw [hey, heu] at this; exact this.symm
        | none =>
          symm; apply look_none
          intro e he q
          obtain ⟨j, hj⟩ := List.getElem?_of_mem he
          simp only [List.getElem?_modify] at hj
          by_cases hij : i = j
          · subst hij; simp [he0] at hj; subst hj; exact hy q.symm
          · simp [hij] at hj
            have := look_mem hm.keys (List.mem_of_getElem? hj)
            rw [q, hl] at this; cases this

theorem map_erase {α β : Type} (f : α → β) : ∀ (l : List α) (i : Nat), (l.map f).eraseIdx i = (l.eraseIdx i).map f
  | [], i => by simp
  | a :: l, 0 => by simp
  | a :: l, i + 1 => by simp [map_erase f l i]
theorem erase_entries (E : List (κ × Value × Nat)) (i : Nat) : ((E.map (ent kv)).toArray.eraseIdxIfInBounds i) = ((E.eraseIdx i).map (ent kv)).toArray := by
  unfold Array.eraseIdxIfInBounds
  by_cases h : i < E.length
  · simp [h, map_erase]
  · simp [h, List.eraseIdx_of_length_le (Nat.le_of_not_lt h)]

theorem MapIs.erase {w w' : World} {b : Nat} {E : List (κ × Value × Nat)} {c : Nat} (hm : MapIs kv w b E c) (i : Nat) (hw : w'.heap[b]? = some (.map ((E.eraseIdx i).map (ent kv)).toArray c)) : MapIs kv w' b (E.eraseIdx i) c :=
  ⟨hw, ((List.eraseIdx_sublist E i).map _).nodup hm.keys, ((List.eraseIdx_sublist E i).map _).nodup hm.born, fun e he => hm.lt e ((List.eraseIdx_sublist E i).subset he)⟩

theorem look_erase {E : List (κ × Value × Nat)} (hn : (E.map (·.1)).Nodup) {i : Nat} {e0 : κ × Value × Nat} (h0 : E[i]? = some e0) (y : κ) : look (E.eraseIdx i) y = if y = e0.1 then none else look E y := by
  have hn' : ((E.eraseIdx i).map (·.1)).Nodup := ((List.eraseIdx_sublist E i).map _).nodup hn
  by_cases hy : y = e0.1
  · subst hy
    simp only [if_true]
    apply look_none
    intro e he q
    obtain ⟨j, hj⟩ := List.getElem?_of_mem he
    rw [List.getElem?_eraseIdx] at hj
    have inj : ∀ (a b' : Nat) (ea eb : κ × Value × Nat), E[a]? = some ea → E[b']? = some eb → ea.1 = eb.1 → a = b' := fun a b' ea eb ha hb hab => by
      have h1 : (E.map (·.1))[a]? = (E.map (·.1))[b']? := by simp [ha, hb, hab]
      exact (List.getElem?_inj (by simpa using (List.getElem?_eq_some_iff.1 ha).1) hn).1 h1
    split at hj
    · have := inj j i e e0 hj h0 q; omega
    · have := inj (j + 1) i e e0 hj h0 q; omega
  · simp only [hy, if_false]
    cases hl : look E y with
    | some u =>
      obtain ⟨e, he, hey, heu⟩ := look_some hl
      have hmem : e ∈ E.eraseIdx i := by
        obtain ⟨j, hj⟩ := List.getElem?_of_mem he
        have hij : i ≠ j := fun q => by subst q; rw [h0] at hj; cases hj; exact hy hey.symm
        rw [List.mem_eraseIdx_iff_getElem?]
        exact ⟨j, fun q => hij q.symm, hj⟩
      have := look_mem hn' hmem
      rw [hey, heu] at this; exact this
    | none =>
      apply look_none
      intro e he q
      have := look_mem hn ((List.eraseIdx_sublist E i).subset he)
      rw [q, hl] at this; cases this

theorem MapF.delete {T el ty : TypeId} {w : World} {b : Nat} {f : κ → Option Value} (h : MapF kv w b f) (L : KeyLaw P K kv) (hT : P.underlying T = some (.map K el)) (x : κ) :
    ∃ o, (Builtin.delete_ #[T, K] ty #[.map (some b), kv x]).run P w = .ok (.tuple #[]) (w.putObj b o) ∧ MapF kv (w.putObj b o) b (upd f x none) := by
  obtain ⟨E, c, hm, hf⟩ := h
  simp only [Builtin.delete_, Sem.run_bind, run_underlying hT, Result.andThen, MapKept.run_getObj_map hm.heap, L.check, run_find L, List.getElem?_toArray, List.getElem?_cons_zero, List.getElem?_cons_succ]
  cases hx : hit x E 0 with
  | none =>
    refine ⟨.map (E.map (ent kv)).toArray c, by simp [MapKept.run_setObj_map _ hm.heap, Result.andThen]; rfl, E, c, ⟨putObj_at hm.heap, hm.keys, hm.born, hm.lt⟩, fun y => ?_⟩
    by_cases hy : y = x
    · subst hy; simp only [upd, if_true]; exact (look_none (hit_none hx)).symm
    · simp only [upd, hy, if_false, hf]
  | some p =>
    obtain ⟨i, v0⟩ := p
    obtain ⟨k, e0, hk, he0, hex, _⟩ := hit_some hx
    obtain rfl : i = k := by omega
    refine ⟨.map ((E.eraseIdx i).map (ent kv)).toArray c, by simp [map_erase, MapKept.run_setObj_map _ hm.heap, Result.andThen]; rfl, E.eraseIdx i, c, hm.erase i (putObj_at hm.heap), fun y => ?_⟩
    rw [look_erase hm.keys he0, hex]
    simp only [upd, hf]

theorem MapF.len {T el ty : TypeId} {w : World} {b : Nat} {f : κ → Option Value} (h : MapF kv w b f) (hT : P.underlying T = some (.map K el)) :
    ∃ n : Nat, (Builtin.len_ #[T] ty #[.map (some b)]).run P w = .ok (goInt n) w ∧ (n = 0 ↔ ∀ x, f x = none) := by
  obtain ⟨E, c, hm, hf⟩ := h
  refine ⟨E.length, ?_, ?_⟩
  · simp [Builtin.len_, run_underlying hT, MapKept.run_getObj_map hm.heap]
  · constructor
    · intro h0 x; rw [hf, List.eq_nil_of_length_eq_zero h0]; rfl
    · intro h0
      cases E with
      | nil => rfl
      | cons e r => have := look_mem hm.keys (e := e) (by simp); rw [← hf, h0] at this; cases this

/-- A range over a map that is under way: block r is the iterator; 'left': what is still to come; at most m entries are. -/
def RangeF (kv : κ → Value) (w : World) (b r : Nat) (f : κ → Option Value) (left : κ → Prop) (m : Nat) : Prop :=
  ∃ E clock since seen last, MapIs kv w b E clock ∧ (∀ x, f x = look E x) ∧ w.heap[r]? = some (.mapIter (some b) since seen last) ∧ (∀ e ∈ E, e.2.2 < since) ∧ since ≤ last ∧ since ≤ clock ∧
    (∀ x, left x ↔ ∃ e ∈ E, e.1 = x ∧ seen.contains e.2.2 = false) ∧ m = (leftOf (E.map (ent kv)).toArray seen).size

theorem RangeF.map {w : World} {b r : Nat} {f : κ → Option Value} {left : κ → Prop} {m : Nat} (h : RangeF kv w b r f left m) : MapF kv w b f := by
  obtain ⟨E, c, s, se, l, hm, hf, _⟩ := h; exact ⟨E, c, hm, hf⟩
theorem RangeF.keep {w w' : World} {S : Nat → Prop} {b r : Nat} {f : κ → Option Value} {left : κ → Prop} {m : Nat} (h : RangeF kv w b r f left m) (ho : Only S w w') (hb : ¬ S b) (hr : ¬ S r) : RangeF kv w' b r f left m := by
  obtain ⟨E, c, s, se, l, hm, hf, hi, rest⟩ := h
  exact ⟨E, c, s, se, l, ⟨ho.heap hm.heap hb, hm.keys, hm.born, hm.lt⟩, hf, ho.heap hi hr, rest⟩
theorem RangeF.ne {w : World} {b r : Nat} {f : κ → Option Value} {left : κ → Prop} {m : Nat} (h : RangeF kv w b r f left m) : b ≠ r := by
  obtain ⟨E, c, s, se, l, hm, hf, hi, _⟩ := h
  intro e; subst e; rw [hm.heap] at hi; cases hi
theorem RangeF.lt {w : World} {b r : Nat} {f : κ → Option Value} {left : κ → Prop} {m : Nat} (h : RangeF kv w b r f left m) : r < w.heap.size := by
  obtain ⟨E, c, s, se, l, hm, hf, hi, _⟩ := h; exact lt_of_block hi

theorem MapF.range {T el : TypeId} {w : World} {b : Nat} {f : κ → Option Value} (h : MapF kv w b f) (hT : P.underlying T = some (.map K el)) :
    ∃ o, (Instr.range T (.map (some b))).run P w = .ok (.pointer (some ⟨w.heap.size, 0, none⟩)) (w.alloc o) ∧ ∃ m, RangeF kv (w.alloc o) b w.heap.size f (fun x => f x ≠ none) m := by
  obtain ⟨E, c, hm, hf⟩ := h
  refine ⟨_, run_range_map w T K el b _ c hT hm.heap, _, E, c, c, #[], c, ⟨(Below.heap_alloc w _ b (lt_of_block hm.heap)).trans hm.heap, hm.keys, hm.born, hm.lt⟩, hf, heap_alloc_new w _, hm.lt, Nat.le_refl _, Nat.le_refl _, fun x => ?_, rfl⟩
  show f x ≠ none ↔ _
  rw [hf]
  constructor
  · intro hne
    cases hl : Go.Proofs.Ythnjfekkngpbjaa.look E x with
    | none => exact absurd hl hne
    | some v => obtain ⟨e, he, hx, _⟩ := look_some hl; exact ⟨e, he, hx, by simp⟩
  · rintro ⟨e, he, rfl, _⟩; rw [look_mem hm.keys he]; simp

theorem RangeF.next {w : World} {b r : Nat} {f : κ → Option Value} {left : κ → Prop} {m : Nat} (h : RangeF kv w b r f left m) (ty : TypeId) :
    ((∀ x, ¬ left x) ∧ (Instr.next (.pointer (some ⟨r, 0, none⟩)) false ty).run P w = .ok (.tuple #[.bool false]) w) ∨
    ∃ x v w' m', left x ∧ f x = some v ∧ (Instr.next (.pointer (some ⟨r, 0, none⟩)) false ty).run P w = .ok (.tuple #[.bool true, kv x, v]) w' ∧ Only (fun k => k = r) w w' ∧ w'.heap.size = w.heap.size ∧
      RangeF kv w' b r f (fun y => left y ∧ y ≠ x) m' ∧ m' < m ∧ (Instr.entry (.pointer (some ⟨r, 0, none⟩))).run P w' = .ok (.tuple #[kv x, v]) w' := by
  have hne := h.ne
  obtain ⟨E, c, s, se, l, hm, hf, hi, hb, hsl, hsc, hleft, rfl⟩ := h
  have hmem : ∀ x ∈ ((E.map (ent kv)).toArray).toList, x.born < s := by
    intro x hx; simp only [List.mem_map] at hx; obtain ⟨e, he, rfl⟩ := hx; exact hb e he
  rcases run_next_at (P := P) w ty r b s l se (E.map (ent kv)).toArray c hi hm.heap hmem hsl with ⟨h0, hrun⟩ | ⟨e, he, w1, hw1, hrun⟩
  · refine .inl ⟨fun x hx => ?_, hrun⟩
    obtain ⟨e, he, rfl, hse⟩ := (hleft x).1 hx
    have := all_seen _ _ h0 (ent kv e) (List.mem_map.2 ⟨_, he, rfl⟩)
    simp only [ent] at this; rw [this] at hse; cases hse
  · obtain ⟨hein, hes⟩ := mem_left he
    simp only [List.mem_map] at hein
    obtain ⟨e0, he0, rfl⟩ := hein
    refine .inr ⟨e0.1, e0.2.1, _, (leftOf (E.map (ent kv)).toArray (se.push e0.2.2)).size, (hleft _).2 ⟨e0, he0, rfl, hes⟩, by rw [hf]; exact look_mem hm.keys he0, hrun, ?_, ?_, ?_, ?_, ?_⟩
    · rcases hw1 with rfl | rfl
      · exact putObj_only _ r _
      · exact ((Only.refl (fun k => k = r) w).drew).trans (putObj_only w.drew r _)
    · rcases hw1 with rfl | rfl <;> simp [ChangeMaps.setBlock] <;> rfl
    · have hbs : (ChangeMaps.setBlock w1 r (.mapIter (some b) s (se.push e0.2.2) c)).heap[b]? = w.heap[b]? := by
        rcases hw1 with rfl | rfl
        · exact World.putObj_heap_other hne
        · exact World.putObj_heap_other (w := w.drew) hne
      have hrs : (ChangeMaps.setBlock w1 r (.mapIter (some b) s (se.push e0.2.2) c)).heap[r]? = some (.mapIter (some b) s (se.push e0.2.2) c) := by
        rcases hw1 with rfl | rfl
        · exact putObj_at hi
        · exact putObj_at (w := w.drew) hi
      refine ⟨E, c, s, se.push e0.2.2, c, ⟨hbs.trans hm.heap, hm.keys, hm.born, hm.lt⟩, hf, hrs, hb, hsc, hsc, fun y => ?_, rfl⟩
      constructor
      · rintro ⟨hy, hyx⟩
        obtain ⟨e, he, rfl, hse⟩ := (hleft y).1 hy
        refine ⟨e, he, rfl, ?_⟩
        rw [contains_push, hse, Bool.false_or]
        have : e.2.2 ≠ e0.2.2 := fun q => hyx (by
          have : e = e0 := by
            have hinj : ∀ a ∈ E, ∀ b' ∈ E, a.2.2 = b'.2.2 → a = b' := fun a ha b' hb' hab => by
              obtain ⟨i, hi⟩ := List.getElem?_of_mem ha
              obtain ⟨j, hj⟩ := List.getElem?_of_mem hb'
              have h1 : (E.map (·.2.2))[i]? = (E.map (·.2.2))[j]? := by simp [hi, hj, hab]
              have := (List.getElem?_inj (by simpa using (List.getElem?_eq_some_iff.1 hi).1) hm.born).1 h1
              subst this; rw [hi] at hj; exact Option.some.inj hj
            exact hinj e he e0 he0 q
          rw [this])
        simpa using this
      · rintro ⟨e, he, rfl, hse⟩
        rw [contains_push, Bool.or_eq_false_iff] at hse
        refine ⟨(hleft _).2 ⟨e, he, rfl, hse.1⟩, fun q => ?_⟩
        have : e = e0 := by
          obtain ⟨i, hi⟩ := List.getElem?_of_mem he
          obtain ⟨j, hj⟩ := List.getElem?_of_mem he0
          have h1 : (E.map (·.1))[i]? = (E.map (·.1))[j]? := by simp [hi, hj, q]
          have := (List.getElem?_inj (by simpa using (List.getElem?_eq_some_iff.1 hi).1) hm.keys).1 h1
          subst this; rw [hi] at hj; exact Option.some.inj hj
        subst this; simp at hse
    · exact left_shrinks _ _ _ he
    · have hbs : (ChangeMaps.setBlock w1 r (.mapIter (some b) s (se.push e0.2.2) c)).heap[b]? = w.heap[b]? := by
        rcases hw1 with rfl | rfl
        · exact World.putObj_heap_other hne
        · exact World.putObj_heap_other (w := w.drew) hne
      have hrs : (ChangeMaps.setBlock w1 r (.mapIter (some b) s (se.push e0.2.2) c)).heap[r]? = some (.mapIter (some b) s (se.push e0.2.2) c) := by
        rcases hw1 with rfl | rfl
        · exact putObj_at hi
        · exact putObj_at (w := w.drew) hi
      exact run_entry_at _ r b s se _ c (ent kv e0) hrs (hbs.trans hm.heap) (List.mem_map.2 ⟨_, he0, rfl⟩) (by simpa [ent, Function.comp_def] using hm.born)

theorem RangeF.delete {T el ty : TypeId} {w : World} {b r : Nat} {f : κ → Option Value} {left : κ → Prop} {m : Nat} (h : RangeF kv w b r f left m) (L : KeyLaw P K kv) (hT : P.underlying T = some (.map K el)) (x : κ) :
    ∃ o m', (Builtin.delete_ #[T, K] ty #[.map (some b), kv x]).run P w = .ok (.tuple #[]) (w.putObj b o) ∧ RangeF kv (w.putObj b o) b r (upd f x none) (fun y => left y ∧ y ≠ x) m' ∧ m' ≤ m := by
  have hne := h.ne
  obtain ⟨E, c, s, se, l, hm, hf, hi, hb, hsl, hsc, hleft, rfl⟩ := h
  simp only [Builtin.delete_, Sem.run_bind, run_underlying hT, Result.andThen, MapKept.run_getObj_map hm.heap, L.check, run_find L, List.getElem?_toArray, List.getElem?_cons_zero, List.getElem?_cons_succ]
  cases hx : hit x E 0 with
  | none =>
    refine ⟨.map (E.map (ent kv)).toArray c, _, by simp [MapKept.run_setObj_map _ hm.heap, Result.andThen]; rfl, ⟨E, c, s, se, l, ⟨putObj_at hm.heap, hm.keys, hm.born, hm.lt⟩, fun y => ?_, (World.putObj_heap_other (Ne.symm hne)).trans hi, hb, hsl, hsc, fun y => ?_, rfl⟩, Nat.le_refl _⟩
    · by_cases hy : y = x
      · subst hy; simp only [upd, if_true]; exact (look_none (hit_none hx)).symm
      · simp only [upd, hy, if_false, hf]
    · show left y ∧ y ≠ x ↔ _
      rw [hleft]
      constructor
      · rintro ⟨h1, _⟩; exact h1
      · rintro ⟨e, he, rfl, hse⟩; exact ⟨⟨e, he, rfl, hse⟩, hit_none hx e he⟩
  | some p =>
    obtain ⟨i, v0⟩ := p
    obtain ⟨k, e0, hk, he0, hex, _⟩ := hit_some hx
    obtain rfl : i = k := by omega
    refine ⟨.map ((E.eraseIdx i).map (ent kv)).toArray c, _, by simp [map_erase, MapKept.run_setObj_map _ hm.heap, Result.andThen]; rfl, ⟨E.eraseIdx i, c, s, se, l, hm.erase i (putObj_at hm.heap), fun y => ?_, (World.putObj_heap_other (Ne.symm hne)).trans hi, fun e he => hb e ((List.eraseIdx_sublist E i).subset he), hsl, hsc, fun y => ?_, rfl⟩, ?_⟩
    · rw [look_erase hm.keys he0, hex]; simp only [upd, hf]
    · show left y ∧ y ≠ x ↔ _
      rw [hleft]
      constructor
      · rintro ⟨⟨e, he, rfl, hse⟩, hy⟩
        refine ⟨e, ?_, rfl, hse⟩
        obtain ⟨j, hj⟩ := List.getElem?_of_mem he
        rw [List.mem_eraseIdx_iff_getElem?]
        exact ⟨j, fun q => by subst q; rw [he0] at hj; cases hj; exact hy hex, hj⟩
      · rintro ⟨e, he, rfl, hse⟩
        refine ⟨⟨e, (List.eraseIdx_sublist E i).subset he, rfl, hse⟩, fun q => ?_⟩
        have h1 := look_mem (((List.eraseIdx_sublist E i).map _).nodup hm.keys) he
        rw [look_erase hm.keys he0, hex, if_pos q] at h1; cases h1
    · unfold leftOf
      have hs : ((E.eraseIdx i).map (ent kv)).Sublist (E.map (ent kv)) := (List.eraseIdx_sublist E i).map _
      have := (hs.filter (fun e => !se.contains e.born)).length_le
      simpa using this
/-- How many entries are still to come: a loop's measure. -/
def leftCount (w : World) (b r : Nat) : Nat := match w.heap[b]?, w.heap[r]? with
  | some (.map es _), some (.mapIter _ _ seen _) => (leftOf es seen).size
  | _, _ => 0
theorem RangeF.count {w : World} {b r : Nat} {f : κ → Option Value} {left : κ → Prop} {m : Nat} (h : RangeF kv w b r f left m) : leftCount w b r = m := by
  obtain ⟨E, c, s, se, l, hm, hf, hi, _, _, _, _, rfl⟩ := h
  simp [leftCount, hm.heap, hi]
end

end Go.Proofs.Ythnjfekkngpbjaa

