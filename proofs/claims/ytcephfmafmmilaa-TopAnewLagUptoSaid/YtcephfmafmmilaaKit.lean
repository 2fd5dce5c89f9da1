/-
  Plain lemmas about worlds that the other texts of this claim use: reading slices, what a step leaves alone, a heap of numbers and strings.
-/
import Derived.WalkKit
import Derived.Lib.Hide
import Derived.Deep.QuietTactic
import Derived.BigQuiet
import Derived.Maps.AppendAt
import Derived.RangeFuncBox
namespace Go.Proofs.Ytcephfmafmmilaa
open Go.RowKit

/-- All blocks but those of S are as they were. -/
structure Only (S : Nat → Prop) (w w' : World) : Prop where
  os : w'.os = w.os
  tape : w'.tape = w.tape
  output : w'.output = w.output
  size : w.heap.size ≤ w'.heap.size
  block : ∀ k, k < w.heap.size → ¬ S k → w'.heap[k]? = w.heap[k]?

theorem Only.refl (S : Nat → Prop) (w : World) : Only S w w := ⟨rfl, rfl, rfl, Nat.le_refl _, fun _ _ _ => rfl⟩
theorem Only.trans {S : Nat → Prop} {a b c : World} (h : Only S a b) (k : Only S b c) : Only S a c :=
  ⟨k.os.trans h.os, k.tape.trans h.tape, k.output.trans h.output, Nat.le_trans h.size k.size, fun i hi hs => (k.block i (Nat.lt_of_lt_of_le hi h.size) hs).trans (h.block i hi hs)⟩
theorem Only.mono {S S' : Nat → Prop} {a b : World} (h : Only S a b) (hs : ∀ k, k < a.heap.size → S k → S' k) : Only S' a b :=
  ⟨h.os, h.tape, h.output, h.size, fun i hi hn => h.block i hi (fun x => hn (hs i hi x))⟩
/-- A step from a later world, seen from an earlier one: new blocks do not count. -/
theorem Only.trans' {S S' : Nat → Prop} {a b c : World} (h : Only S a b) (k : Only S' b c) (hs : ∀ i, i < a.heap.size → S' i → S i) : Only S a c :=
  ⟨k.os.trans h.os, k.tape.trans h.tape, k.output.trans h.output, Nat.le_trans h.size k.size, fun i hi hn => (k.block i (Nat.lt_of_lt_of_le hi h.size) (fun x => hn (hs i hi x))).trans (h.block i hi hn)⟩
theorem Only.drew {S : Nat → Prop} {a w : World} (h : Only S a w) : Only S a w.drew := ⟨h.os, h.tape, h.output, h.size, h.block⟩
theorem Only.drewN {S : Nat → Prop} {a w : World} (h : Only S a w) (n : Nat) : Only S a (w.drewN n) := ⟨h.os, h.tape, h.output, h.size, h.block⟩
theorem Only.alloc {S : Nat → Prop} {a w : World} (h : Only S a w) (o : Obj) : Only S a (w.alloc o) :=
  h.trans' (S' := fun _ => False) ⟨rfl, rfl, rfl, by simp, fun k hk _ => Below.heap_alloc _ _ _ hk⟩ (fun _ _ f => f.elim)
theorem Only.setCell {S : Nat → Prop} {a w : World} (h : Only S a w) {p : Addr} (hp : S p.block ∨ a.heap.size ≤ p.block) (u : Value) : Only S a (w.setCell p u) :=
  h.trans' (S' := fun k => k = p.block) ⟨rfl, rfl, rfl, by simp [World.setCell], fun k _ hn => Below.heap_setCell _ _ _ _ hn⟩ (fun i hi e => by subst e; rcases hp with hp | hp; exact hp; omega)
theorem Only.grown {S : Nat → Prop} {a w w' : World} {row : Option Nat} (h : Only S a w) (hg : w.grownBy w' row) (hr : ∀ k, row = some k → S k ∨ a.heap.size ≤ k) : Only S a w' :=
  h.trans' (S' := fun k => row = some k) ⟨hg.os, hg.tape, hg.output, hg.size, fun k hk hn => hg.block k hk (fun e => hn e.symm)⟩ (fun i hi e => by rcases hr i e with h | h; exact h; omega)
theorem Only.below {B : Nat} {w w' : World} (h : Below B w w') : Only (fun k => B ≤ k) w w' := ⟨h.os, h.tape, h.output, h.size, fun k _ hn => h.block k (by omega)⟩
theorem Only.toBelow {S : Nat → Prop} {B : Nat} {w w' : World} (h : Only S w w') (hB : B ≤ w.heap.size) (hs : ∀ k, k < B → ¬ S k) : Below B w w' :=
  ⟨h.os, h.tape, h.output, h.size, fun k hk => h.block k (by omega) (hs k hk)⟩
theorem Only.heap {S : Nat → Prop} {w w' : World} (h : Only S w w') {k : Nat} {o : Obj} (ho : w.heap[k]? = some o) (hn : ¬ S k) : w'.heap[k]? = some o :=
  (h.block k (lt_of_block ho) hn).trans ho
theorem Only.cell {S : Nat → Prop} {w w' : World} (h : Only S w w') {p : Addr} {v : Value} (hv : w.cell? p = some v) (hn : ¬ S p.block) : w'.cell? p = some v :=
  (World.cell?_of_block (h.block p.block (World.block_lt_of_cell? w p hv) hn)).trans hv

theorem Only.world {S : Nat → Prop} {a b : World} (h : Only S a b) : Only S a b.drew := h.drew

/-- A slice value whose cells (size cells an element) lie in blocks of D. -/
def SliceAt (D : Nat → Prop) (w : World) (v : Value) (size : Nat) (cs : List Value) : Prop :=
  ∃ a len cap, v = .slice a len cap ∧ cs.length = len * size ∧ len ≤ cap ∧ cap ≤ maxLen ∧
    (0 < len → ∃ b off, a = some ⟨b, off, none⟩ ∧ D b ∧ ∀ j u, cs[j]? = some u → w.cell? ⟨b, off + j, none⟩ = some u)

theorem SliceAt.keep {D S : Nat → Prop} {w w' : World} {v : Value} {size : Nat} {cs : List Value} (h : SliceAt D w v size cs) (ho : Only S w w') (hd : ∀ k, k < w.heap.size → D k → ¬ S k) (hz : 0 < size) : SliceAt D w' v size cs := by
  obtain ⟨a, len, cap, hv, hl, hlc, hm, hc⟩ := h
  refine ⟨a, len, cap, hv, hl, hlc, hm, fun hp => ?_⟩
  obtain ⟨b, off, ha, hD, hcell⟩ := hc hp
  refine ⟨b, off, ha, hD, fun j u hu => ho.cell (hcell j u hu) (hd b ?_ hD)⟩
  exact World.block_lt_of_cell? w _ (hcell j u hu)
theorem SliceAt.dom {D D' : Nat → Prop} {w : World} {v : Value} {size : Nat} {cs : List Value} (h : SliceAt D w v size cs) (hd : ∀ k, k < w.heap.size → D k → D' k) (hs : 0 < size) : SliceAt D' w v size cs := by
  obtain ⟨a, len, cap, hv, hl, hlc, hm, hc⟩ := h
  refine ⟨a, len, cap, hv, hl, hlc, hm, fun hp => ?_⟩
  obtain ⟨b, off, ha, hD, hcell⟩ := hc hp
  refine ⟨b, off, ha, hd b ?_ hD, hcell⟩
  have h0 : 0 < cs.length := by rw [hl]; exact Nat.mul_pos hp hs
  exact World.block_lt_of_cell? w _ (hcell 0 cs[0] (by simp [h0]))

/-- The shapes of what is put into a heap. -/
inductive Sh where
  | num (k : IntKind)
  | bool
  | text
  | agg (fs : List Sh)
  | list (e : Sh)

mutual
def Sh.size : Sh → Nat
  | .num _ => 1
  | .bool => 1
  | .text => 1
  | .agg fs => Sh.sizes fs
  | .list _ => 1
def Sh.sizes : List Sh → Nat
  | [] => 0
  | s :: r => s.size + Sh.sizes r
end

/-- 'These cells hold a value of this shape, of which these numbers and these strings are put.' -/
inductive Enc (D : Nat → Prop) (w : World) : Sh → List Value → List Int → List ByteArray → Prop where
  | num (k : IntKind) (n : Int) : Enc D w (.num k) [.int k n] [n] []
  | bool (b : Bool) : Enc D w .bool [.bool b] [if b then 1 else 0] []
  | text (s : ByteArray) : Enc D w .text [.string s] [] [s]
  | nil : Enc D w (.agg []) [] [] []
  | cons {s : Sh} {fs : List Sh} {c1 c2 : List Value} {n1 n2 : List Int} {t1 t2 : List ByteArray} : Enc D w s c1 n1 t1 → Enc D w (.agg fs) c2 n2 t2 → Enc D w (.agg (s :: fs)) (c1 ++ c2) (n1 ++ n2) (t1 ++ t2)
  | list {e : Sh} {v : Value} (rows : List (List Value × List Int × List ByteArray)) : SliceAt D w v e.size (rows.flatMap (·.1)) → 0 < e.size →
      (∀ r, r ∈ rows → r.1.length = e.size) → (∀ r, r ∈ rows → Enc D w e r.1 r.2.1 r.2.2) → Enc D w (.list e) [v] ((rows.length : Int) :: rows.flatMap (·.2.1)) (rows.flatMap (·.2.2))

theorem Enc.keep {D S : Nat → Prop} {w w' : World} (ho : Only S w w') (hd : ∀ k, k < w.heap.size → D k → ¬ S k) {s : Sh} {cs : List Value} {ns : List Int} {ts : List ByteArray} (h : Enc D w s cs ns ts) : Enc D w' s cs ns ts := by
  induction h with
  | num k n => exact .num k n
  | bool b => exact .bool b
  | text s => exact .text s
  | nil => exact .nil
  | cons _ _ i1 i2 => exact .cons i1 i2
  | list rows hs hz hr _ ih => exact .list rows (hs.keep ho hd hz) hz hr ih

theorem flat_length {α β : Type} (f : α → List β) (n : Nat) (l : List α) (h : ∀ r, r ∈ l → (f r).length = n) : (l.flatMap f).length = l.length * n := by
  induction l with
  | nil => simp
  | cons x r ih => simp only [List.flatMap_cons, List.length_append, List.length_cons]; rw [h x (by simp), ih (fun r hr => h r (by simp [hr])), Nat.succ_mul]; omega
theorem flat_get {α β : Type} (f : α → List β) (n : Nat) (l : List α) (h : ∀ r, r ∈ l → (f r).length = n) (k j : Nat) (hk : k < l.length) (hj : j < n) : (l.flatMap f)[k * n + j]? = (f l[k])[j]? := by
  induction l generalizing k with
  | nil => simp at hk
  | cons x r ih =>
    have hx := h x (by simp)
    cases k with
    | zero => simp only [List.flatMap_cons, Nat.zero_mul, Nat.zero_add, List.getElem_cons_zero]; rw [List.getElem?_append_left (by omega)]
    | succ k =>
      simp only [List.flatMap_cons, List.getElem_cons_succ]
      rw [List.getElem?_append_right (by rw [hx, Nat.succ_mul]; omega), hx, ← ih (fun r hr => h r (by simp [hr])) k (by simpa using hk)]
      congr 1; rw [Nat.succ_mul]; omega

/-- A list that is put, opened. -/
theorem Enc.open_list {D : Nat → Prop} {w : World} {e : Sh} {v : Value} {ns : List Int} {ss : List ByteArray} (h : Enc D w (.list e) [v] ns ss) :
    ∃ (a : Option Addr) (len cap : Nat) (rows : List (List Value × List Int × List ByteArray)), v = .slice a len cap ∧ rows.length = len ∧ len ≤ 9223372036854775807 ∧ ns = (len : Int) :: rows.flatMap (fun r : List Value × List Int × List ByteArray => r.2.1) ∧ ss = rows.flatMap (fun r => r.2.2) ∧
      ∀ k r, rows[k]? = some r → ∃ b off, a = some ⟨b, off, none⟩ ∧ D b ∧ b < w.heap.size ∧ r.1.length = e.size ∧ Enc D w e r.1 r.2.1 r.2.2 ∧ ∀ j u, r.1[j]? = some u → w.cell? ⟨b, off + k * e.size + j, none⟩ = some u := by
  cases h with | list rows hs hz hr1 hr2 =>
  obtain ⟨a, len, cap, rfl, hl, hlc, hm, hc⟩ := hs
  have hfl := flat_length (fun r : List Value × List Int × List ByteArray => r.1) e.size rows hr1
  have hlen : rows.length = len := by rw [hl] at hfl; exact Nat.eq_of_mul_eq_mul_right hz hfl.symm
  refine ⟨a, len, cap, rows, rfl, hlen, by unfold maxLen at hm; omega, by rw [hlen], rfl, fun k r hk => ?_⟩
  obtain ⟨hk', rfl⟩ := List.getElem?_eq_some_iff.1 hk
  obtain ⟨b, off, ha, hD, hcell⟩ := hc (by omega)
  have hmem : rows[k] ∈ rows := List.getElem_mem hk'
  have hcell' : ∀ j u, rows[k].1[j]? = some u → w.cell? ⟨b, off + k * e.size + j, none⟩ = some u := fun j u hu => by
    have hj : j < e.size := by rw [← hr1 _ hmem]; exact (List.getElem?_eq_some_iff.1 hu).1
    rw [Nat.add_assoc]
    exact hcell _ u ((flat_get (fun r : List Value × List Int × List ByteArray => r.1) e.size rows hr1 k j hk' hj).trans hu)
  refine ⟨b, off, ha, hD, ?_, hr1 _ hmem, hr2 _ hmem, hcell'⟩
  have h0 : 0 < rows[k].1.length := by rw [hr1 _ hmem]; exact hz
  exact World.block_lt_of_cell? w _ (hcell' 0 _ (List.getElem?_eq_getElem h0))

theorem take_flat {α β : Type} (f : α → List β) (l : List α) (k : Nat) (r : α) (h : l[k]? = some r) : (l.take (k + 1)).flatMap f = (l.take k).flatMap f ++ f r := by
  rw [List.take_add_one, h, List.flatMap_append]; simp

theorem Enc.len {D : Nat → Prop} {w : World} {s : Sh} {cs : List Value} {ns : List Int} {ss : List ByteArray} (h : Enc D w s cs ns ss) : cs.length = s.size := by
  induction h with
  | num | bool | text | list => rfl
  | nil => rfl
  | cons _ _ i1 i2 => simp only [List.length_append, Sh.size, Sh.sizes] at *; omega
theorem Enc.open_cons {D : Nat → Prop} {w : World} {s : Sh} {fs : List Sh} {cs : List Value} {ns : List Int} {ss : List ByteArray} (h : Enc D w (.agg (s :: fs)) cs ns ss) :
    ∃ c1 c2 n1 n2 t1 t2, cs = c1 ++ c2 ∧ ns = n1 ++ n2 ∧ ss = t1 ++ t2 ∧ Enc D w s c1 n1 t1 ∧ Enc D w (.agg fs) c2 n2 t2 := by
  cases h with | cons h1 h2 => exact ⟨_, _, _, _, _, _, rfl, rfl, rfl, h1, h2⟩
theorem Enc.split {D : Nat → Prop} {w : World} {s : Sh} {fs : List Sh} {l1 l2 : List Value} {ns : List Int} {ss : List ByteArray} (h : Enc D w (.agg (s :: fs)) (l1 ++ l2) ns ss) (hl : l1.length = s.size) :
    ∃ n1 n2 t1 t2, ns = n1 ++ n2 ∧ ss = t1 ++ t2 ∧ Enc D w s l1 n1 t1 ∧ Enc D w (.agg fs) l2 n2 t2 := by
  obtain ⟨c1, c2, n1, n2, t1, t2, hc, hn, ht, h1, h2⟩ := h.open_cons
  obtain ⟨rfl, rfl⟩ := List.append_inj hc (hl.trans h1.len.symm)
  exact ⟨n1, n2, t1, t2, hn, ht, h1, h2⟩
theorem Enc.open_nil {D : Nat → Prop} {w : World} {cs : List Value} {ns : List Int} {ss : List ByteArray} (h : Enc D w (.agg []) cs ns ss) : cs = [] ∧ ns = [] ∧ ss = [] := by
  cases h; exact ⟨rfl, rfl, rfl⟩
theorem Enc.open_num' {D : Nat → Prop} {w : World} {k : IntKind} {cs : List Value} {ns : List Int} {ss : List ByteArray} (h : Enc D w (.num k) cs ns ss) : ∃ n, cs = [.int k n] ∧ ns = [n] ∧ ss = [] := by
  cases h; exact ⟨_, rfl, rfl, rfl⟩
theorem Enc.open_num {D : Nat → Prop} {w : World} {k : IntKind} {c : Value} {ns : List Int} {ss : List ByteArray} (h : Enc D w (.num k) [c] ns ss) : ∃ n, c = .int k n ∧ ns = [n] ∧ ss = [] := by
  obtain ⟨n, hc, hn, hs⟩ := h.open_num'; simp at hc; exact ⟨n, hc, hn, hs⟩
theorem Enc.open_bool' {D : Nat → Prop} {w : World} {cs : List Value} {ns : List Int} {ss : List ByteArray} (h : Enc D w .bool cs ns ss) : ∃ b : Bool, cs = [.bool b] ∧ ns = [if b then 1 else 0] ∧ ss = [] := by
  cases h; exact ⟨_, rfl, rfl, rfl⟩
theorem Enc.open_bool {D : Nat → Prop} {w : World} {c : Value} {ns : List Int} {ss : List ByteArray} (h : Enc D w .bool [c] ns ss) : ∃ b : Bool, c = .bool b ∧ ns = [if b then 1 else 0] ∧ ss = [] := by
  obtain ⟨n, hc, hn, hs⟩ := h.open_bool'; simp at hc; exact ⟨n, hc, hn, hs⟩
theorem Enc.open_text' {D : Nat → Prop} {w : World} {cs : List Value} {ns : List Int} {ss : List ByteArray} (h : Enc D w .text cs ns ss) : ∃ s, cs = [.string s] ∧ ns = [] ∧ ss = [s] := by
  cases h; exact ⟨_, rfl, rfl, rfl⟩
theorem Enc.open_text {D : Nat → Prop} {w : World} {c : Value} {ns : List Int} {ss : List ByteArray} (h : Enc D w .text [c] ns ss) : ∃ s, c = .string s ∧ ns = [] ∧ ss = [s] := by
  obtain ⟨n, hc, hn, hs⟩ := h.open_text'; simp at hc; exact ⟨n, hc, hn, hs⟩

theorem SliceAt.fresh {D : Nat → Prop} {w : World} {v : Value} {size : Nat} {cs : List Value} (h : SliceAt D w v size cs) (hs : 0 < size) : SliceAt (fun k => D k ∧ k < w.heap.size) w v size cs :=
  h.dom (fun _ hk hd => ⟨hd, hk⟩) hs
theorem Enc.dom {D D' : Nat → Prop} {w : World} (hd : ∀ k, k < w.heap.size → D k → D' k) {s : Sh} {cs : List Value} {ns : List Int} {ts : List ByteArray} (h : Enc D w s cs ns ts) : Enc D' w s cs ns ts := by
  induction h with
  | num k n => exact .num k n
  | bool b => exact .bool b
  | text s => exact .text s
  | nil => exact .nil
  | cons _ _ i1 i2 => exact .cons i1 i2
  | list rows hs hz hr _ ih => exact .list rows (hs.dom hd hz) hz hr ih
theorem Enc.fresh {D : Nat → Prop} {w : World} {s : Sh} {cs : List Value} {ns : List Int} {ts : List ByteArray} (h : Enc D w s cs ns ts) : Enc (fun k => D k ∧ k < w.heap.size) w s cs ns ts :=
  h.dom (fun _ hk hd => ⟨hd, hk⟩)

/-- Room for so many numbers and strings. -/
def Room (ns : List Int) (ss : List ByteArray) : Prop := ns.length ≤ 1099511627776 ∧ ss.length ≤ 1099511627776
theorem Room.left {a b : List Int} {c d : List ByteArray} (h : Room (a ++ b) (c ++ d)) : Room a c := by
  have h1 := h.1; have h2 := h.2; simp only [List.length_append] at h1 h2; exact ⟨by omega, by omega⟩
theorem Room.first {n a b : List Int} {t c d : List ByteArray} (h : Room (n ++ (a ++ b)) (t ++ (c ++ d))) : Room (n ++ a) (t ++ c) := by
  rw [← List.append_assoc, ← List.append_assoc] at h; exact h.left
theorem Room.next {n a b : List Int} {t c d : List ByteArray} (h : Room (n ++ (a ++ b)) (t ++ (c ++ d))) : Room ((n ++ a) ++ b) ((t ++ c) ++ d) := by
  rw [← List.append_assoc, ← List.append_assoc] at h; exact h
theorem Room.take {ns : List Int} {ss : List ByteArray} (rows : List (List Value × List Int × List ByteArray)) {l : Int} (k : Nat) (hn : Room (ns ++ (l :: rows.flatMap (fun r => r.2.1))) (ss ++ rows.flatMap (fun r => r.2.2))) :
    Room (ns ++ (l :: (rows.take k).flatMap (fun r => r.2.1))) (ss ++ (rows.take k).flatMap (fun r => r.2.2)) := by
  have h1 : ((rows.take k).flatMap (fun r => r.2.1)).length ≤ (rows.flatMap (fun r => r.2.1)).length := by
    conv => rhs; rw [← List.take_append_drop k rows, List.flatMap_append, List.length_append]
    omega
  have h2 : ((rows.take k).flatMap (fun r => r.2.2)).length ≤ (rows.flatMap (fun r => r.2.2)).length := by
    conv => rhs; rw [← List.take_append_drop k rows, List.flatMap_append, List.length_append]
    omega
  have := hn.1; have := hn.2
  simp only [List.length_append, List.length_cons] at *
  exact ⟨by simp only [List.length_append, List.length_cons]; omega, by simp only [List.length_append]; omega⟩

/-- A row that a call owns, as a slice that is read. -/
theorem ownsRow_slice {w : World} {base : Nat} {e : TypeId} {v : Value} {n : Nat} {xs : List Value} (h : w.ownsRow base e 1 v n xs) : SliceAt (fun k => v.ownBlock = some k) w v 1 xs := by
  obtain ⟨hl, h2⟩ := h
  rcases h2 with ⟨rfl, rfl⟩ | ⟨g, cap, cur, rfl, hb, hg, hn, hm, hcur, htake⟩
  · exact ⟨none, 0, 0, rfl, hl, Nat.le_refl _, Nat.zero_le _, fun h => absurd h (by omega)⟩
  · refine ⟨_, n, cap, rfl, hl, hn, hm, fun _ => ⟨g, 0, rfl, rfl, fun j u hu => ?_⟩⟩
    rw [Nat.zero_add, cell_of_row w g j cur e (0, 0) hg]
    rw [← htake, List.getElem?_take] at hu
    split at hu
    · simpa using hu
    · cases hu
theorem SliceAt.ints {D : Nat → Prop} {w : World} {v : Value} {ns : List Int} {k : IntKind} (h : SliceAt D w v 1 (ns.map (.int k))) :
    ∃ a len cap, v = .slice a len cap ∧ len = ns.length ∧ len ≤ cap ∧ len ≤ 9223372036854775807 ∧ ∀ i, i < len → ∃ b off, a = some ⟨b, off, none⟩ ∧ D b ∧ w.cell? ⟨b, off + i, none⟩ = some (.int k (ns[i]?.getD 0)) := by
  obtain ⟨a, len, cap, rfl, hl, hlc, hm, hc⟩ := h
  refine ⟨a, len, cap, rfl, by simpa using hl.symm, hlc, by unfold maxLen at hm; omega, fun i hi => ?_⟩
  obtain ⟨b, off, ha, hD, hcell⟩ := hc (by omega)
  have hi' : i < ns.length := by simp at hl; omega
  exact ⟨b, off, ha, hD, hcell i _ (by simp [List.getElem?_eq_getElem hi'])⟩
theorem SliceAt.texts {D : Nat → Prop} {w : World} {v : Value} {ss : List ByteArray} (h : SliceAt D w v 1 (ss.map .string)) :
    ∃ a len cap, v = .slice a len cap ∧ len = ss.length ∧ len ≤ cap ∧ len ≤ 9223372036854775807 ∧ ∀ i, i < len → ∃ b off, a = some ⟨b, off, none⟩ ∧ D b ∧ w.cell? ⟨b, off + i, none⟩ = some (.string (ss[i]?.getD ByteArray.empty)) := by
  obtain ⟨a, len, cap, rfl, hl, hlc, hm, hc⟩ := h
  refine ⟨a, len, cap, rfl, by simpa using hl.symm, hlc, by unfold maxLen at hm; omega, fun i hi => ?_⟩
  obtain ⟨b, off, ha, hD, hcell⟩ := hc (by omega)
  have hi' : i < ss.length := by simp at hl; omega
  exact ⟨b, off, ha, hD, hcell i _ (by simp [List.getElem?_eq_getElem hi'])⟩

end Go.Proofs.Ytcephfmafmmilaa
