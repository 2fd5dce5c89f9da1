/-
  What the put functions of the statement do to a heap of numbers and strings.
-/
import Derived.Test.YtcephfmafmmilaaChecked
import Derived.Test.YtcephfmafmmilaaKit
namespace Go.Proofs.Ytcephfmafmmilaa
open Go.RowKit

theorem infoInt : (Try.prog.info? 3).map (fun i => (i.zero, i.size, i.bytes)) = some (some (.int .i64 0), 1, 8) := by kernel_rfl
theorem infoStr : (Try.prog.info? 9).map (fun i => (i.zero, i.size, i.bytes)) = some (some (.string ByteArray.empty), 1, 16) := by kernel_rfl

def HeapIs (hb : Nat) (w : World) (ns : List Int) (ss : List ByteArray) : Prop :=
  ∃ vn vs, w.heap[hb]? = some (.cells #[vn, vs] 29 (0, 0)) ∧ w.ownsRow 0 3 1 vn ns.length (ns.map (.int .i64)) ∧ w.ownsRow 0 9 1 vs ss.length (ss.map .string)

/-- The blocks of a heap. -/
def InHeap (hb : Nat) (w : World) (k : Nat) : Prop :=
  k = hb ∨ ∃ vn vs, w.heap[hb]? = some (.cells #[vn, vs] 29 (0, 0)) ∧ (vn.ownBlock = some k ∨ vs.ownBlock = some k)

structure Step (hb : Nat) (w w' : World) : Prop where
  only : Only (InHeap hb w) w w'
  rows : ∀ k, InHeap hb w' k → InHeap hb w k ∨ w.heap.size ≤ k

theorem Step.refl (hb : Nat) (w : World) : Step hb w w := ⟨Only.refl _ _, fun _ h => .inl h⟩
theorem Step.trans {hb : Nat} {a b c : World} (h : Step hb a b) (k : Step hb b c) : Step hb a c :=
  ⟨h.only.trans' k.only (fun i hi hx => by rcases h.rows i hx with h | h; exact h; omega),
   fun i hi => by
    rcases k.rows i hi with h1 | h1
    · exact h.rows i h1
    · have := h.only.size; right; omega⟩
theorem Step.alloc {hb : Nat} {a w : World} (h : Step hb a w) (hlt : hb < w.heap.size) (o : Obj) : Step hb a (w.alloc o) :=
  h.trans ⟨(Only.refl _ _).alloc o, fun k hk => by
    rcases hk with rfl | ⟨vn, vs, hh, hk⟩
    · exact .inl (.inl rfl)
    · rw [Below.heap_alloc w o hb hlt] at hh; exact .inl (.inr ⟨vn, vs, hh, hk⟩)⟩
theorem Step.drew {hb : Nat} {a w : World} (h : Step hb a w) : Step hb a w.drew := ⟨h.only.drew, h.rows⟩
theorem Step.drewN {hb : Nat} {a w : World} (h : Step hb a w) (n : Nat) : Step hb a (w.drewN n) := ⟨h.only.drewN n, h.rows⟩

theorem HeapIs.lt {hb : Nat} {w : World} {ns : List Int} {ss : List ByteArray} (h : HeapIs hb w ns ss) : hb < w.heap.size := by
  obtain ⟨vn, vs, hh, _⟩ := h; exact lt_of_block hh
theorem InHeap.lt {hb : Nat} {w : World} {ns : List Int} {ss : List ByteArray} (h : HeapIs hb w ns ss) {k : Nat} (hk : InHeap hb w k) : k < w.heap.size := by
  obtain ⟨vn, vs, hh, hN, hS⟩ := h
  rcases hk with rfl | ⟨vn', vs', hh', hk⟩
  · exact lt_of_block hh
  · rw [hh] at hh'; simp at hh'; obtain ⟨rfl, rfl⟩ := hh'
    rcases hk with hk | hk
    · exact (hN.lt k hk).2
    · exact (hS.lt k hk).2
theorem HeapIs.alloc {hb : Nat} {w : World} {ns : List Int} {ss : List ByteArray} (h : HeapIs hb w ns ss) (o : Obj) : HeapIs hb (w.alloc o) ns ss := by
  obtain ⟨vn, vs, hh, hN, hS⟩ := h
  exact ⟨vn, vs, (Below.heap_alloc w o hb (lt_of_block hh)).trans hh, hN.alloc o, hS.alloc o⟩
/-- What lies apart from a heap may be turned. -/
theorem HeapIs.keep {hb : Nat} {w w' : World} {S : Nat → Prop} {ns : List Int} {ss : List ByteArray} (h : HeapIs hb w ns ss) (ho : Only S w w') (hs : ∀ k, InHeap hb w k → ¬ S k) : HeapIs hb w' ns ss := by
  obtain ⟨vn, vs, hh, hN, hS⟩ := h
  have hkeep : ∀ (e : TypeId) (v : Value) (n : Nat) (xs : List Value), (∀ k, v.ownBlock = some k → ¬ S k) → w.ownsRow 0 e 1 v n xs → w'.ownsRow 0 e 1 v n xs := by
    intro e v n xs hv hr
    refine ⟨hr.1, ?_⟩
    rcases hr.2 with hn | ⟨g, cap, cur, rfl, hb, hg, rest⟩
    · exact .inl hn
    · exact .inr ⟨g, cap, cur, rfl, hb, ho.heap hg (hv g rfl), rest⟩
  exact ⟨vn, vs, ho.heap hh (hs hb (.inl rfl)), hkeep _ _ _ _ (fun k hk => hs k (.inr ⟨vn, vs, hh, .inl hk⟩)) hN, hkeep _ _ _ _ (fun k hk => hs k (.inr ⟨vn, vs, hh, .inr hk⟩)) hS⟩

theorem heap_cells {w : World} {hb : Nat} {vn vs : Value} (h : w.heap[hb]? = some (.cells #[vn, vs] 29 (0, 0))) :
    w.cell? ⟨hb, 0, none⟩ = some vn ∧ w.cell? ⟨hb, 1, none⟩ = some vs ∧ w.frozen? ⟨hb, 0, none⟩ = false ∧ w.frozen? ⟨hb, 1, none⟩ = false := by
  simp [World.cell?, World.frozen?, h]

theorem row_ne {w : World} {hb : Nat} {cs : Array Value} {t e : TypeId} {v : Value} {n : Nat} {xs : List Value} (hh : w.heap[hb]? = some (.cells cs t (0, 0))) (hN : w.ownsRow 0 e 1 v n xs) (hte : t ≠ e) : v.ownBlock ≠ some hb := by
  intro he
  rcases hN.2 with ⟨rfl, _⟩ | ⟨g, cap, cur, rfl, _, hg', _⟩
  · simp [Value.ownBlock] at he
  · simp only [Value.ownBlock, Option.some.injEq] at he; subst he; rw [hh] at hg'; simp at hg'; exact hte hg'.2
theorem rows_ne {w : World} {e e' : TypeId} {v v' : Value} {n n' : Nat} {xs xs' : List Value} (hN : w.ownsRow 0 e 1 v n xs) (hS : w.ownsRow 0 e' 1 v' n' xs') (hte : e ≠ e') : v'.ownBlock = none ∨ v'.ownBlock ≠ v.ownBlock := by
  rcases hS.2 with ⟨rfl, _⟩ | ⟨g, cap, cur, rfl, _, hg', _⟩
  · exact .inl rfl
  · refine .inr fun he => ?_
    exact row_ne hg' hN (fun h => hte h.symm) he.symm

/-- Behind an append on one of the two lists, and the store of the slice: the heap, and what was left alone. -/
theorem heap_num {hb : Nat} {w w1 : World} {o : Obj} {vn vs v' : Value} {x : Int} {ns : List Int} {ss : List ByteArray}
    (hh : w.heap[hb]? = some (.cells #[vn, vs] 29 (0, 0))) (hN : w.ownsRow 0 3 1 vn ns.length (ns.map (.int .i64))) (hS : w.ownsRow 0 9 1 vs ss.length (ss.map .string))
    (h1 : w1.ownsRow 0 3 1 v' (ns.length + 1) (ns.map (.int .i64) ++ [.int .i64 x])) (hg : (w.alloc o).grownBy w1 vn.ownBlock) (hat : v'.ownBlock = vn.ownBlock ∨ v'.ownBlock = some (w.heap.size + 1)) :
    w1.heap[hb]? = some (.cells #[vn, vs] 29 (0, 0)) ∧ Step hb w (w1.setCell ⟨hb, 0, none⟩ v') ∧ HeapIs hb (w1.setCell ⟨hb, 0, none⟩ v') (ns ++ [x]) ss := by
  have hbl := lt_of_block hh
  have hne := row_ne hh hN (by decide)
  have hne2 := rows_ne hN hS (by decide)
  have hh0 : (w.alloc o).heap[hb]? = some (.cells #[vn, vs] 29 (0, 0)) := (Below.heap_alloc w o hb hbl).trans hh
  have hh1 : w1.heap[hb]? = some (.cells #[vn, vs] 29 (0, 0)) := (hg.block hb (by simp; omega) (fun e => hne e.symm)).trans hh0
  have hS1 : w1.ownsRow 0 9 1 vs ss.length (ss.map .string) := (hS.alloc o).kept hg hne2
  have hsame := heap_setCell_same w1 hb 0 #[vn, vs] 29 v' hh1
  have hO : Only (InHeap hb w) w (w1.setCell ⟨hb, 0, none⟩ v') :=
    (((Only.refl _ w).alloc o).grown hg (fun k hk => .inl (.inr ⟨vn, vs, hh, .inl hk⟩))).setCell (.inl (.inl rfl)) _
  refine ⟨hh1, ⟨hO, fun k hk => ?_⟩, v', vs, by simpa using hsame, ?_, ?_⟩
  · rcases hk with rfl | ⟨vn', vs', hh', hk⟩
    · exact .inl (.inl rfl)
    · rw [hsame] at hh'; simp at hh'; obtain ⟨rfl, rfl⟩ := hh'
      rcases hk with hk | hk
      · rcases hat with hat | hat
        · exact .inl (.inr ⟨vn, vs, hh, .inl (hat.symm.trans hk)⟩)
        · right; rw [hat] at hk; simp at hk; omega
      · exact .inl (.inr ⟨vn, vs, hh, .inr hk⟩)
  · exact ownsRow_setCell_other (by simpa using h1) (row_ne hh1 h1 (by decide)) _
  · exact ownsRow_setCell_other hS1 (row_ne hh1 hS1 (by decide)) _
theorem heap_text {hb : Nat} {w w1 : World} {o : Obj} {vn vs v' : Value} {x : ByteArray} {ns : List Int} {ss : List ByteArray}
    (hh : w.heap[hb]? = some (.cells #[vn, vs] 29 (0, 0))) (hN : w.ownsRow 0 3 1 vn ns.length (ns.map (.int .i64))) (hS : w.ownsRow 0 9 1 vs ss.length (ss.map .string))
    (h1 : w1.ownsRow 0 9 1 v' (ss.length + 1) (ss.map .string ++ [.string x])) (hg : (w.alloc o).grownBy w1 vs.ownBlock) (hat : v'.ownBlock = vs.ownBlock ∨ v'.ownBlock = some (w.heap.size + 1)) :
    w1.heap[hb]? = some (.cells #[vn, vs] 29 (0, 0)) ∧ Step hb w (w1.setCell ⟨hb, 1, none⟩ v') ∧ HeapIs hb (w1.setCell ⟨hb, 1, none⟩ v') ns (ss ++ [x]) := by
  have hbl := lt_of_block hh
  have hne := row_ne hh hS (by decide)
  have hne2 := rows_ne hS hN (by decide)
  have hh0 : (w.alloc o).heap[hb]? = some (.cells #[vn, vs] 29 (0, 0)) := (Below.heap_alloc w o hb hbl).trans hh
  have hh1 : w1.heap[hb]? = some (.cells #[vn, vs] 29 (0, 0)) := (hg.block hb (by simp; omega) (fun e => hne e.symm)).trans hh0
  have hN1 : w1.ownsRow 0 3 1 vn ns.length (ns.map (.int .i64)) := (hN.alloc o).kept hg hne2
  have hsame := heap_setCell_same w1 hb 1 #[vn, vs] 29 v' hh1
  have hO : Only (InHeap hb w) w (w1.setCell ⟨hb, 1, none⟩ v') :=
    (((Only.refl _ w).alloc o).grown hg (fun k hk => .inl (.inr ⟨vn, vs, hh, .inr hk⟩))).setCell (.inl (.inl rfl)) _
  refine ⟨hh1, ⟨hO, fun k hk => ?_⟩, vn, v', by simpa using hsame, ?_, ?_⟩
  · rcases hk with rfl | ⟨vn', vs', hh', hk⟩
    · exact .inl (.inl rfl)
    · rw [hsame] at hh'; simp at hh'; obtain ⟨rfl, rfl⟩ := hh'
      rcases hk with hk | hk
      · exact .inl (.inr ⟨vn, vs, hh, .inl hk⟩)
      · rcases hat with hat | hat
        · exact .inl (.inr ⟨vn, vs, hh, .inr (hat.symm.trans hk)⟩)
        · right; rw [hat] at hk; simp at hk; omega
  · exact ownsRow_setCell_other hN1 (row_ne hh1 hN1 (by decide)) _
  · exact ownsRow_setCell_other (by simpa using h1) (row_ne hh1 h1 (by decide)) _

def Put (hb : Nat) (w : World) (ns : List Int) (ss : List ByteArray) (e : Ending) (w' : World) : Prop :=
  e = .returned (.tuple #[]) ∧ HeapIs hb w' ns ss ∧ Step hb w w'

/-- What a loop that puts a list has put, when k rows are over. -/
def PutRows (hb : Nat) (w : World) (ns : List Int) (ss : List ByteArray) (len : Nat) (rows : List (List Value × List Int × List ByteArray)) (k : Nat) (wr : World) : Prop :=
  HeapIs hb wr (ns ++ ((len : Int) :: (rows.take k).flatMap (fun r => r.2.1))) (ss ++ (rows.take k).flatMap (fun r => r.2.2)) ∧ Step hb w wr
theorem in_alloc {hb : Nat} {w : World} {o : Obj} (hlt : hb < w.heap.size) {k : Nat} (h : InHeap hb (w.alloc o) k) : InHeap hb w k := by
  rcases h with rfl | ⟨vn, vs, hh, hk⟩
  · exact .inl rfl
  · rw [Below.heap_alloc w o hb hlt] at hh; exact .inr ⟨vn, vs, hh, hk⟩
theorem not_box {hb : Nat} {w : World} {ns : List Int} {ss : List ByteArray} (hH : HeapIs hb w ns ss) (o : Obj) : ¬ InHeap hb (w.alloc o) w.heap.size := fun h => by
  have := InHeap.lt hH (in_alloc hH.lt h); omega
theorem Step.apart {hb : Nat} {w w' : World} {D : Nat → Prop} (h : Step hb w w') (hD : ∀ k, D k → ¬ InHeap hb w k) (hlt : ∀ k, D k → k < w.heap.size) : ∀ k, D k → ¬ InHeap hb w' k := fun k hk hi => by
  rcases h.rows k hi with h' | h'
  · exact hD k hk h'
  · have := hlt k hk; omega
theorem len_1 {α : Type} {l : List α} (h : l.length = 1) : ∃ x0, l = [x0] := by
  match l, h with
  | [x0], _ => exact ⟨x0, rfl⟩

set_option maxHeartbeats 400000 in
set_option maxRecDepth 100000 in
theorem putInt64_any (hb : Nat) (c : Value) (D : Nat → Prop) (ns : List Int) (ss : List ByteArray) (ns' : List Int) (ss' : List ByteArray) (w : World) (hH : HeapIs hb w ns ss) (hD : ∀ k, D k → ¬ InHeap hb w k)
    (hE : Enc D w (.num .i64) [c] ns' ss') (hn : Room (ns ++ ns') (ss ++ ss')) :
    Calls Try.prog 12 #[.pointer (some ⟨hb, 0, none⟩), c] w (Put hb w (ns ++ ns') (ss ++ ss')) := by
  obtain ⟨x, rfl, rfl, rfl⟩ := hE.open_num
  obtain ⟨i0, hi, hz0, hz1, hz2⟩ := info_parts infoInt
  obtain ⟨vn, vs, hh, hN, hS⟩ := hH
  obtain ⟨c0, c1, f0, f1⟩ := heap_cells hh
  go_enter Try.func12, Try.ntmps12
  go_wp2_with (at_builtin; refine wpList_append_own_at _ rfl _ _ 26 rfl 0 3 i0 (.int .i64 0) 1 8 Try.underlying26 hi hz0 hz1 hz2 rfl (by decide) _ _ _ rfl (hN.alloc _) ⟨w.heap.size, 0, none⟩ 1 1 [.int .i64 x] rfl rfl (cell_one_new _ _ _) ?c2 ?c3 ?c4 ?c5 ?_)
  case c2 => simp [Value.oneCell']
  case c3 => have := hn.1; simp at this; unfold maxLen; omega
  case c4 => have := hn.1; simp at this; omega
  try (case c5 => omega)
  intro v' w1 hown' hgrow _ hat
  obtain ⟨hh1, hO, hH'⟩ := heap_num hh hN hS hown' hgrow hat
  obtain ⟨g', cap', rfl⟩ := ownsRow_succ hown'
  obtain ⟨d0, d1, e0, e1⟩ := heap_cells hh1
  clear hh hN hS c0 c1 f0 f1 hown' hgrow hat
  go_wp2
  go_end0
  exact ⟨rfl, by simpa using hH', hO⟩

set_option maxHeartbeats 400000 in
set_option maxRecDepth 100000 in
theorem puts_Int64s (hb : Nat) (v : Value) (D : Nat → Prop) (ns : List Int) (ss : List ByteArray) (ns' : List Int) (ss' : List ByteArray) (w : World) (hH : HeapIs hb w ns ss) (hD : ∀ k, D k → ¬ InHeap hb w k)
    (hE : Enc D w (.list (.num .i64)) [v] ns' ss') (hn : Room (ns ++ ns') (ss ++ ss')) :
    Calls Try.prog 54 #[.pointer (some ⟨hb, 0, none⟩), v, .func (.func 12) #[] #[]] w (Put hb w (ns ++ ns') (ss ++ ss')) := by
  obtain ⟨i0, hi, hz0, hz1, hz2⟩ := info_parts infoInt
  obtain ⟨a, len, cap, rows, rfl, hlen, hm, rfl, rfl, hrow⟩ := hE.open_list
  clear hE
  obtain ⟨vn, vs, hh, hN, hS⟩ := hH
  obtain ⟨c0, c1, f0, f1⟩ := heap_cells hh
  have Hrow := Lib.hid hrow; clear hrow
  have Hlen := Lib.hid hlen; clear hlen
  go_enter Try.func54, Try.ntmps54
  go_wp2_with (at_builtin; refine wpList_append_own_at _ rfl _ _ 26 rfl 0 3 i0 (.int .i64 0) 1 8 Try.underlying26 hi hz0 hz1 hz2 rfl (by decide) _ _ _ rfl (hN.alloc _) ⟨w.heap.size, 0, none⟩ 1 1 [.int .i64 len] rfl rfl (cell_one_new _ _ _) ?c2 ?c3 ?c4 ?c5 ?_)
  case c2 => simp [Value.oneCell']
  case c3 => have := hn.1; simp at this; unfold maxLen; omega
  case c4 => have := hn.1; simp at this; omega
  case c5 => omega
  intro v' w1 hown' hgrow _ hat
  obtain ⟨hh1, hO, hH'⟩ := heap_num hh hN hS hown' hgrow hat
  obtain ⟨g', cap', rfl⟩ := ownsRow_succ hown'
  obtain ⟨d0, d1, e0, e1⟩ := heap_cells hh1
  clear hh hN hS c0 c1 f0 f1 hown' hgrow hat
  go_wp2
  go_loopw [6] (fun i wr => ∃ k : Nat, k ≤ len ∧ i = .int .i64 k ∧ PutRows hb w ns ss len rows k wr) (fun i _ => len - (intOf i).toNat)
  case atStart => exact ⟨0, Nat.zero_le _, rfl, by simpa using hH', hO⟩
  case round =>
    obtain ⟨k, hk, rfl, hHr, hOr⟩ := hrel
    by_cases hlt : k < len
    · obtain ⟨r, hr⟩ : ∃ r, rows[k]? = some r := ⟨rows[k]'(by rw [Hlen.out]; exact hlt), List.getElem?_eq_getElem _⟩
      obtain ⟨b, off, rfl, hDb, hbl, hsz, hEr, hcell⟩ := Hrow.out k r hr
      have hEr' := hEr.fresh.keep hOr.only (fun j _ hj => hD j hj.1)
      have hDr : ∀ j, D j → ¬ InHeap hb wr j ∨ w.heap.size ≤ j := fun j hj => by
        by_cases h : InHeap hb wr j
        · rcases hOr.rows j h with h' | h'
          · exact absurd h' (hD j hj)
          · exact .inr h'
        · exact .inl h
      have hroom : Room ((ns ++ ((len : Int) :: (rows.take k).flatMap (fun r => r.2.1))) ++ r.2.1) ((ss ++ (rows.take k).flatMap (fun r => r.2.2)) ++ r.2.2) := by
        have h := hn.take (ns := ns) (ss := ss) rows (k + 1)
        rw [take_flat _ rows k r hr, take_flat _ rows k r hr] at h
        simpa using h
      have hst := Lib.hid (take_flat (fun r : List Value × List Int × List ByteArray => r.2.1) rows k _ hr)
      have hst2 := Lib.hid (take_flat (fun r : List Value × List Int × List ByteArray => r.2.2) rows k _ hr)
      obtain ⟨rc, rn, rs⟩ := r
      dsimp only at hEr' hcell hsz hroom hst hst2
      obtain ⟨x0, rfl⟩ := len_1 hsz
      have hx0 := hOr.only.cell (hcell 0 _ rfl) (hD b hDb)
      clear hcell hr hEr
      simp only [Sh.size, Sh.sizes, Nat.mul_one, Nat.add_zero, Nat.reduceAdd] at hx0
      go_wp2_with fail
      refine (putInt64_any hb x0 (fun j => D j ∧ j < w.heap.size) _ _ rn rs _ hHr (fun j hj => (hDr j hj.1).resolve_right (by have := hj.2; omega)) hEr' hroom).mono ?_
      rintro e w2 ⟨rfl, hH2, hO2⟩
      go_wp2
      go_roundw
      case rel =>
        refine ⟨k + 1, by omega, by go_num, ?_, hOr.trans hO2⟩
        rw [hst.out, hst2.out]; simpa using hH2
      case measure => simp [intOf]; omega
    · go_wp2
      go_end0
      have hall : rows.take k = rows := List.take_of_length_le (by rw [Hlen.out]; omega)
      rw [hall] at hHr
      exact ⟨rfl, hHr, hOr⟩

set_option maxHeartbeats 400000 in
theorem putInt64s_any (hb : Nat) (v : Value) (D : Nat → Prop) (ns : List Int) (ss : List ByteArray) (ns' : List Int) (ss' : List ByteArray) (w : World) (hH : HeapIs hb w ns ss) (hD : ∀ k, D k → ¬ InHeap hb w k)
    (hE : Enc D w (.list (.num .i64)) [v] ns' ss') (hn : Room (ns ++ ns') (ss ++ ss')) :
    Calls Try.prog 23 #[.pointer (some ⟨hb, 0, none⟩), v] w (Put hb w (ns ++ ns') (ss ++ ss')) := by
  go_enter Try.func23, Try.ntmps23
  go_wp2_with fail
  refine (puts_Int64s hb v D ns ss ns' ss' _ hH hD hE hn).mono ?_
  rintro e w' ⟨rfl, h1, h2⟩
  go_wp2
  go_end0
  exact ⟨rfl, h1, h2⟩

set_option maxHeartbeats 400000 in
set_option maxRecDepth 100000 in
theorem putInt_any (hb : Nat) (c : Value) (D : Nat → Prop) (ns : List Int) (ss : List ByteArray) (ns' : List Int) (ss' : List ByteArray) (w : World) (hH : HeapIs hb w ns ss) (hD : ∀ k, D k → ¬ InHeap hb w k)
    (hE : Enc D w (.num .i64) [c] ns' ss') (hn : Room (ns ++ ns') (ss ++ ss')) :
    Calls Try.prog 20 #[.pointer (some ⟨hb, 0, none⟩), c] w (Put hb w (ns ++ ns') (ss ++ ss')) := by
  obtain ⟨x, rfl, rfl, rfl⟩ := hE.open_num
  obtain ⟨i0, hi, hz0, hz1, hz2⟩ := info_parts infoInt
  obtain ⟨vn, vs, hh, hN, hS⟩ := hH
  obtain ⟨c0, c1, f0, f1⟩ := heap_cells hh
  go_enter Try.func20, Try.ntmps20
  go_wp2_with (at_builtin; refine wpList_append_own_at _ rfl _ _ 26 rfl 0 3 i0 (.int .i64 0) 1 8 Try.underlying26 hi hz0 hz1 hz2 rfl (by decide) _ _ _ rfl (hN.alloc _) ⟨w.heap.size, 0, none⟩ 1 1 [.int .i64 x] rfl rfl (cell_one_new _ _ _) ?c2 ?c3 ?c4 ?c5 ?_)
  case c2 => simp [Value.oneCell']
  case c3 => have := hn.1; simp at this; unfold maxLen; omega
  case c4 => have := hn.1; simp at this; omega
  try (case c5 => omega)
  intro v' w1 hown' hgrow _ hat
  obtain ⟨hh1, hO, hH'⟩ := heap_num hh hN hS hown' hgrow hat
  obtain ⟨g', cap', rfl⟩ := ownsRow_succ hown'
  obtain ⟨d0, d1, e0, e1⟩ := heap_cells hh1
  clear hh hN hS c0 c1 f0 f1 hown' hgrow hat
  go_wp2
  go_end0
  exact ⟨rfl, by simpa using hH', hO⟩

set_option maxHeartbeats 400000 in
set_option maxRecDepth 100000 in
theorem puts_Int64ss (hb : Nat) (v : Value) (D : Nat → Prop) (ns : List Int) (ss : List ByteArray) (ns' : List Int) (ss' : List ByteArray) (w : World) (hH : HeapIs hb w ns ss) (hD : ∀ k, D k → ¬ InHeap hb w k)
    (hE : Enc D w (.list (.list (.num .i64))) [v] ns' ss') (hn : Room (ns ++ ns') (ss ++ ss')) :
    Calls Try.prog 67 #[.pointer (some ⟨hb, 0, none⟩), v, .func (.func 23) #[] #[]] w (Put hb w (ns ++ ns') (ss ++ ss')) := by
  obtain ⟨i0, hi, hz0, hz1, hz2⟩ := info_parts infoInt
  obtain ⟨a, len, cap, rows, rfl, hlen, hm, rfl, rfl, hrow⟩ := hE.open_list
  clear hE
  obtain ⟨vn, vs, hh, hN, hS⟩ := hH
  obtain ⟨c0, c1, f0, f1⟩ := heap_cells hh
  have Hrow := Lib.hid hrow; clear hrow
  have Hlen := Lib.hid hlen; clear hlen
  go_enter Try.func67, Try.ntmps67
  go_wp2_with (at_builtin; refine wpList_append_own_at _ rfl _ _ 26 rfl 0 3 i0 (.int .i64 0) 1 8 Try.underlying26 hi hz0 hz1 hz2 rfl (by decide) _ _ _ rfl (hN.alloc _) ⟨w.heap.size, 0, none⟩ 1 1 [.int .i64 len] rfl rfl (cell_one_new _ _ _) ?c2 ?c3 ?c4 ?c5 ?_)
  case c2 => simp [Value.oneCell']
  case c3 => have := hn.1; simp at this; unfold maxLen; omega
  case c4 => have := hn.1; simp at this; omega
  case c5 => omega
  intro v' w1 hown' hgrow _ hat
  obtain ⟨hh1, hO, hH'⟩ := heap_num hh hN hS hown' hgrow hat
  obtain ⟨g', cap', rfl⟩ := ownsRow_succ hown'
  obtain ⟨d0, d1, e0, e1⟩ := heap_cells hh1
  clear hh hN hS c0 c1 f0 f1 hown' hgrow hat
  go_wp2
  go_loopw [6] (fun i wr => ∃ k : Nat, k ≤ len ∧ i = .int .i64 k ∧ PutRows hb w ns ss len rows k wr) (fun i _ => len - (intOf i).toNat)
  case atStart => exact ⟨0, Nat.zero_le _, rfl, by simpa using hH', hO⟩
  case round =>
    obtain ⟨k, hk, rfl, hHr, hOr⟩ := hrel
    by_cases hlt : k < len
    · obtain ⟨r, hr⟩ : ∃ r, rows[k]? = some r := ⟨rows[k]'(by rw [Hlen.out]; exact hlt), List.getElem?_eq_getElem _⟩
      obtain ⟨b, off, rfl, hDb, hbl, hsz, hEr, hcell⟩ := Hrow.out k r hr
      have hEr' := hEr.fresh.keep hOr.only (fun j _ hj => hD j hj.1)
      have hDr : ∀ j, D j → ¬ InHeap hb wr j ∨ w.heap.size ≤ j := fun j hj => by
        by_cases h : InHeap hb wr j
        · rcases hOr.rows j h with h' | h'
          · exact absurd h' (hD j hj)
          · exact .inr h'
        · exact .inl h
      have hroom : Room ((ns ++ ((len : Int) :: (rows.take k).flatMap (fun r => r.2.1))) ++ r.2.1) ((ss ++ (rows.take k).flatMap (fun r => r.2.2)) ++ r.2.2) := by
        have h := hn.take (ns := ns) (ss := ss) rows (k + 1)
        rw [take_flat _ rows k r hr, take_flat _ rows k r hr] at h
        simpa using h
      have hst := Lib.hid (take_flat (fun r : List Value × List Int × List ByteArray => r.2.1) rows k _ hr)
      have hst2 := Lib.hid (take_flat (fun r : List Value × List Int × List ByteArray => r.2.2) rows k _ hr)
      obtain ⟨rc, rn, rs⟩ := r
      dsimp only at hEr' hcell hsz hroom hst hst2
      obtain ⟨x0, rfl⟩ := len_1 hsz
      have hx0 := hOr.only.cell (hcell 0 _ rfl) (hD b hDb)
      clear hcell hr hEr
      simp only [Sh.size, Sh.sizes, Nat.mul_one, Nat.add_zero, Nat.reduceAdd] at hx0
      go_wp2_with fail
      refine (putInt64s_any hb x0 (fun j => D j ∧ j < w.heap.size) _ _ rn rs _ hHr (fun j hj => (hDr j hj.1).resolve_right (by have := hj.2; omega)) hEr' hroom).mono ?_
      rintro e w2 ⟨rfl, hH2, hO2⟩
      go_wp2
      go_roundw
      case rel =>
        refine ⟨k + 1, by omega, by go_num, ?_, hOr.trans hO2⟩
        rw [hst.out, hst2.out]; simpa using hH2
      case measure => simp [intOf]; omega
    · go_wp2
      go_end0
      have hall : rows.take k = rows := List.take_of_length_le (by rw [Hlen.out]; omega)
      rw [hall] at hHr
      exact ⟨rfl, hHr, hOr⟩

set_option maxHeartbeats 400000 in
theorem putInt64ss_any (hb : Nat) (v : Value) (D : Nat → Prop) (ns : List Int) (ss : List ByteArray) (ns' : List Int) (ss' : List ByteArray) (w : World) (hH : HeapIs hb w ns ss) (hD : ∀ k, D k → ¬ InHeap hb w k)
    (hE : Enc D w (.list (.list (.num .i64))) [v] ns' ss') (hn : Room (ns ++ ns') (ss ++ ss')) :
    Calls Try.prog 42 #[.pointer (some ⟨hb, 0, none⟩), v] w (Put hb w (ns ++ ns') (ss ++ ss')) := by
  go_enter Try.func42, Try.ntmps42
  go_wp2_with fail
  refine (puts_Int64ss hb v D ns ss ns' ss' _ hH hD hE hn).mono ?_
  rintro e w' ⟨rfl, h1, h2⟩
  go_wp2
  go_end0
  exact ⟨rfl, h1, h2⟩

set_option maxHeartbeats 400000 in
set_option maxRecDepth 100000 in
theorem putBool_any (hb : Nat) (c : Value) (D : Nat → Prop) (ns : List Int) (ss : List ByteArray) (ns' : List Int) (ss' : List ByteArray) (w : World) (hH : HeapIs hb w ns ss) (hD : ∀ k, D k → ¬ InHeap hb w k)
    (hE : Enc D w .bool [c] ns' ss') (hn : Room (ns ++ ns') (ss ++ ss')) :
    Calls Try.prog 43 #[.pointer (some ⟨hb, 0, none⟩), c] w (Put hb w (ns ++ ns') (ss ++ ss')) := by
  obtain ⟨x, rfl, rfl, rfl⟩ := hE.open_bool
  obtain ⟨i0, hi, hz0, hz1, hz2⟩ := info_parts infoInt
  obtain ⟨vn, vs, hh, hN, hS⟩ := hH
  obtain ⟨c0, c1, f0, f1⟩ := heap_cells hh
  cases x
  · go_enter Try.func43, Try.ntmps43
    go_wp2_with (at_builtin; refine wpList_append_own_at _ rfl _ _ 26 rfl 0 3 i0 (.int .i64 0) 1 8 Try.underlying26 hi hz0 hz1 hz2 rfl (by decide) _ _ _ rfl (hN.alloc _) ⟨w.heap.size, 0, none⟩ 1 1 [.int .i64 0] rfl rfl (cell_one_new _ _ _) ?c2 ?c3 ?c4 ?c5 ?_)
    case c2 => simp [Value.oneCell']
    case c3 => have := hn.1; simp at this; unfold maxLen; omega
    case c4 => have := hn.1; simp at this; omega
    try (case c5 => omega)
    intro v' w1 hown' hgrow _ hat
    obtain ⟨hh1, hO, hH'⟩ := heap_num hh hN hS hown' hgrow hat
    obtain ⟨g', cap', rfl⟩ := ownsRow_succ hown'
    obtain ⟨d0, d1, e0, e1⟩ := heap_cells hh1
    clear hh hN hS c0 c1 f0 f1 hown' hgrow hat
    go_wp2
    go_end0
    exact ⟨rfl, by simpa using hH', hO⟩
  · go_enter Try.func43, Try.ntmps43
    go_wp2_with (at_builtin; refine wpList_append_own_at _ rfl _ _ 26 rfl 0 3 i0 (.int .i64 0) 1 8 Try.underlying26 hi hz0 hz1 hz2 rfl (by decide) _ _ _ rfl (hN.alloc _) ⟨w.heap.size, 0, none⟩ 1 1 [.int .i64 1] rfl rfl (cell_one_new _ _ _) ?c2 ?c3 ?c4 ?c5 ?_)
    case c2 => simp [Value.oneCell']
    case c3 => have := hn.1; simp at this; unfold maxLen; omega
    case c4 => have := hn.1; simp at this; omega
    try (case c5 => omega)
    intro v' w1 hown' hgrow _ hat
    obtain ⟨hh1, hO, hH'⟩ := heap_num hh hN hS hown' hgrow hat
    obtain ⟨g', cap', rfl⟩ := ownsRow_succ hown'
    obtain ⟨d0, d1, e0, e1⟩ := heap_cells hh1
    clear hh hN hS c0 c1 f0 f1 hown' hgrow hat
    go_wp2
    go_end0
    exact ⟨rfl, by simpa using hH', hO⟩

set_option maxHeartbeats 400000 in
set_option maxRecDepth 100000 in
theorem putErrno_any (hb : Nat) (c : Value) (D : Nat → Prop) (ns : List Int) (ss : List ByteArray) (ns' : List Int) (ss' : List ByteArray) (w : World) (hH : HeapIs hb w ns ss) (hD : ∀ k, D k → ¬ InHeap hb w k)
    (hE : Enc D w (.num .i64) [c] ns' ss') (hn : Room (ns ++ ns') (ss ++ ss')) :
    Calls Try.prog 8 #[.pointer (some ⟨hb, 0, none⟩), c] w (Put hb w (ns ++ ns') (ss ++ ss')) := by
  obtain ⟨x, rfl, rfl, rfl⟩ := hE.open_num
  obtain ⟨i0, hi, hz0, hz1, hz2⟩ := info_parts infoInt
  obtain ⟨vn, vs, hh, hN, hS⟩ := hH
  obtain ⟨c0, c1, f0, f1⟩ := heap_cells hh
  go_enter Try.func8, Try.ntmps8
  go_wp2_with (at_builtin; refine wpList_append_own_at _ rfl _ _ 26 rfl 0 3 i0 (.int .i64 0) 1 8 Try.underlying26 hi hz0 hz1 hz2 rfl (by decide) _ _ _ rfl (hN.alloc _) ⟨w.heap.size, 0, none⟩ 1 1 [.int .i64 x] rfl rfl (cell_one_new _ _ _) ?c2 ?c3 ?c4 ?c5 ?_)
  case c2 => simp [Value.oneCell']
  case c3 => have := hn.1; simp at this; unfold maxLen; omega
  case c4 => have := hn.1; simp at this; omega
  try (case c5 => omega)
  intro v' w1 hown' hgrow _ hat
  obtain ⟨hh1, hO, hH'⟩ := heap_num hh hN hS hown' hgrow hat
  obtain ⟨g', cap', rfl⟩ := ownsRow_succ hown'
  obtain ⟨d0, d1, e0, e1⟩ := heap_cells hh1
  clear hh hN hS c0 c1 f0 f1 hown' hgrow hat
  go_wp2
  go_end0
  exact ⟨rfl, by simpa using hH', hO⟩

set_option maxHeartbeats 1000000 in
set_option maxRecDepth 100000 in
theorem putRatio_any (hb : Nat) (c0 c1 : Value) (D : Nat → Prop) (ns : List Int) (ss : List ByteArray) (ns' : List Int) (ss' : List ByteArray) (w : World) (hH : HeapIs hb w ns ss) (hD : ∀ k, D k → ¬ InHeap hb w k)
    (hE : Enc D w (.agg [(.num .i64), (.num .i64)]) [c0, c1] ns' ss') (hn : Room (ns ++ ns') (ss ++ ss')) :
    Calls Try.prog 17 #[.pointer (some ⟨hb, 0, none⟩), .agg #[c0, c1]] w (Put hb w (ns ++ ns') (ss ++ ss')) := by
  obtain ⟨n0, m0, t0, u0, rfl, rfl, e0, r0⟩ := Enc.split (l1 := [c0]) (l2 := [c1]) hE rfl
  obtain ⟨n1, m1, t1, u1, rfl, rfl, e1, r1⟩ := Enc.split (l1 := [c1]) (l2 := []) r0 rfl
  obtain ⟨_, rfl, rfl⟩ := r1.open_nil
  have hlt := hH.lt
  have hbx := not_box hH (.cells #[c0, c1] 42)
  have hD0 : ∀ k, D k ∧ k < w.heap.size → ¬ InHeap hb (w.alloc (.cells #[c0, c1] 42)) k := fun k hk hi => hD k hk.1 (in_alloc hlt hi)
  have S0 : Step hb (w.alloc (.cells #[c0, c1] 42)) (w.alloc (.cells #[c0, c1] 42)) := Step.refl _ _
  have H0 := hH.alloc (.cells #[c0, c1] 42)
  have E0 := (e0.fresh).keep ((Only.refl (fun _ => False) w).alloc (.cells #[c0, c1] 42)) (fun _ _ _ hf => hf)
  have E1 := (e1.fresh).keep ((Only.refl (fun _ => False) w).alloc (.cells #[c0, c1] 42)) (fun _ _ _ hf => hf)
  have R0 := Lib.hid hn
  have R1 := Lib.hid (R0.out).next
  clear hE hn e0 r0 e1 r1
  go_enter Try.func17, Try.ntmps17
  go_wp2_with fail
  refine (putInt64_any hb c0 (fun k => D k ∧ k < w.heap.size) _ _ n0 t0 _ H0 (S0.apart hD0 (fun k hk => by have := hk.2; simp; omega)) (E0.keep S0.only (fun k _ hk => hD0 k hk)) (R0.out).first).mono ?_
  rintro e w1 ⟨rfl, H1, T1⟩
  have S1 := S0.trans T1
  have b1 := S1.only.cell (p := ⟨w.heap.size, 1, none⟩) (v := c1) (by simp) hbx
  go_wp2_with fail
  refine (putInt64_any hb c1 (fun k => D k ∧ k < w.heap.size) _ _ n1 t1 _ H1 (S1.apart hD0 (fun k hk => by have := hk.2; simp; omega)) (E1.keep S1.only (fun k _ hk => hD0 k hk)) (R1.out).first).mono ?_
  rintro e w2 ⟨rfl, H2, T2⟩
  have S2 := S1.trans T2
  go_wp2
  go_end0
  exact ⟨rfl, by simpa using H2, ((Step.refl hb w).alloc hlt _).trans S2⟩

set_option maxHeartbeats 1000000 in
set_option maxRecDepth 100000 in
theorem all_any (hb : Nat) (c0 c1 c2 c3 c4 c5 : Value) (D : Nat → Prop) (ns : List Int) (ss : List ByteArray) (ns' : List Int) (ss' : List ByteArray) (w : World) (hH : HeapIs hb w ns ss) (hD : ∀ k, D k → ¬ InHeap hb w k)
    (hE : Enc D w (.agg [(.list (.num .i64)), (.num .i64), (.list (.list (.num .i64))), .bool, (.list (.num .i64)), (.list (.num .i64))]) [c0, c1, c2, c3, c4, c5] ns' ss') (hn : Room (ns ++ ns') (ss ++ ss')) :
    Calls Try.prog 4 #[.agg #[c0, c1, c2, c3, c4, c5], .pointer (some ⟨hb, 0, none⟩)] w (Put hb w (ns ++ ns') (ss ++ ss')) := by
  obtain ⟨n0, m0, t0, u0, rfl, rfl, e0, r0⟩ := Enc.split (l1 := [c0]) (l2 := [c1, c2, c3, c4, c5]) hE rfl
  obtain ⟨n1, m1, t1, u1, rfl, rfl, e1, r1⟩ := Enc.split (l1 := [c1]) (l2 := [c2, c3, c4, c5]) r0 rfl
  obtain ⟨n2, m2, t2, u2, rfl, rfl, e2, r2⟩ := Enc.split (l1 := [c2]) (l2 := [c3, c4, c5]) r1 rfl
  obtain ⟨n3, m3, t3, u3, rfl, rfl, e3, r3⟩ := Enc.split (l1 := [c3]) (l2 := [c4, c5]) r2 rfl
  obtain ⟨n4, m4, t4, u4, rfl, rfl, e4, r4⟩ := Enc.split (l1 := [c4]) (l2 := [c5]) r3 rfl
  obtain ⟨n5, m5, t5, u5, rfl, rfl, e5, r5⟩ := Enc.split (l1 := [c5]) (l2 := []) r4 rfl
  obtain ⟨_, rfl, rfl⟩ := r5.open_nil
  have hlt := hH.lt
  have hbx := not_box hH (.cells #[c0, c1, c2, c3, c4, c5] 25)
  have hD0 : ∀ k, D k ∧ k < w.heap.size → ¬ InHeap hb (w.alloc (.cells #[c0, c1, c2, c3, c4, c5] 25)) k := fun k hk hi => hD k hk.1 (in_alloc hlt hi)
  have S0 : Step hb (w.alloc (.cells #[c0, c1, c2, c3, c4, c5] 25)) (w.alloc (.cells #[c0, c1, c2, c3, c4, c5] 25)) := Step.refl _ _
  have H0 := hH.alloc (.cells #[c0, c1, c2, c3, c4, c5] 25)
  have E0 := (e0.fresh).keep ((Only.refl (fun _ => False) w).alloc (.cells #[c0, c1, c2, c3, c4, c5] 25)) (fun _ _ _ hf => hf)
  have E1 := (e1.fresh).keep ((Only.refl (fun _ => False) w).alloc (.cells #[c0, c1, c2, c3, c4, c5] 25)) (fun _ _ _ hf => hf)
  have E2 := (e2.fresh).keep ((Only.refl (fun _ => False) w).alloc (.cells #[c0, c1, c2, c3, c4, c5] 25)) (fun _ _ _ hf => hf)
  have E3 := (e3.fresh).keep ((Only.refl (fun _ => False) w).alloc (.cells #[c0, c1, c2, c3, c4, c5] 25)) (fun _ _ _ hf => hf)
  have E4 := (e4.fresh).keep ((Only.refl (fun _ => False) w).alloc (.cells #[c0, c1, c2, c3, c4, c5] 25)) (fun _ _ _ hf => hf)
  have E5 := (e5.fresh).keep ((Only.refl (fun _ => False) w).alloc (.cells #[c0, c1, c2, c3, c4, c5] 25)) (fun _ _ _ hf => hf)
  have R0 := Lib.hid hn
  have R1 := Lib.hid (R0.out).next
  have R2 := Lib.hid (R1.out).next
  have R3 := Lib.hid (R2.out).next
  have R4 := Lib.hid (R3.out).next
  have R5 := Lib.hid (R4.out).next
  clear hE hn e0 r0 e1 r1 e2 r2 e3 r3 e4 r4 e5 r5
  go_enter Try.func4, Try.ntmps4
  go_wp2_with fail
  refine (putInt64s_any hb c0 (fun k => D k ∧ k < w.heap.size) _ _ n0 t0 _ H0 (S0.apart hD0 (fun k hk => by have := hk.2; simp; omega)) (E0.keep S0.only (fun k _ hk => hD0 k hk)) (R0.out).first).mono ?_
  rintro e w1 ⟨rfl, H1, T1⟩
  have S1 := S0.trans T1
  have b1 := S1.only.cell (p := ⟨w.heap.size, 1, none⟩) (v := c1) (by simp) hbx
  go_wp2_with fail
  refine (putInt_any hb c1 (fun k => D k ∧ k < w.heap.size) _ _ n1 t1 _ H1 (S1.apart hD0 (fun k hk => by have := hk.2; simp; omega)) (E1.keep S1.only (fun k _ hk => hD0 k hk)) (R1.out).first).mono ?_
  rintro e w2 ⟨rfl, H2, T2⟩
  have S2 := S1.trans T2
  have b2 := S2.only.cell (p := ⟨w.heap.size, 2, none⟩) (v := c2) (by simp) hbx
  go_wp2_with fail
  refine (putInt64ss_any hb c2 (fun k => D k ∧ k < w.heap.size) _ _ n2 t2 _ H2 (S2.apart hD0 (fun k hk => by have := hk.2; simp; omega)) (E2.keep S2.only (fun k _ hk => hD0 k hk)) (R2.out).first).mono ?_
  rintro e w3 ⟨rfl, H3, T3⟩
  have S3 := S2.trans T3
  have b3 := S3.only.cell (p := ⟨w.heap.size, 3, none⟩) (v := c3) (by simp) hbx
  go_wp2_with fail
  refine (putBool_any hb c3 (fun k => D k ∧ k < w.heap.size) _ _ n3 t3 _ H3 (S3.apart hD0 (fun k hk => by have := hk.2; simp; omega)) (E3.keep S3.only (fun k _ hk => hD0 k hk)) (R3.out).first).mono ?_
  rintro e w4 ⟨rfl, H4, T4⟩
  have S4 := S3.trans T4
  have b4 := S4.only.cell (p := ⟨w.heap.size, 4, none⟩) (v := c4) (by simp) hbx
  go_wp2_with fail
  refine (putInt64s_any hb c4 (fun k => D k ∧ k < w.heap.size) _ _ n4 t4 _ H4 (S4.apart hD0 (fun k hk => by have := hk.2; simp; omega)) (E4.keep S4.only (fun k _ hk => hD0 k hk)) (R4.out).first).mono ?_
  rintro e w5 ⟨rfl, H5, T5⟩
  have S5 := S4.trans T5
  have b5 := S5.only.cell (p := ⟨w.heap.size, 5, none⟩) (v := c5) (by simp) hbx
  go_wp2_with fail
  refine (putInt64s_any hb c5 (fun k => D k ∧ k < w.heap.size) _ _ n5 t5 _ H5 (S5.apart hD0 (fun k hk => by have := hk.2; simp; omega)) (E5.keep S5.only (fun k _ hk => hD0 k hk)) (R5.out).first).mono ?_
  rintro e w6 ⟨rfl, H6, T6⟩
  have S6 := S5.trans T6
  go_wp2
  go_end0
  exact ⟨rfl, by simpa using H6, ((Step.refl hb w).alloc hlt _).trans S6⟩

end Go.Proofs.Ytcephfmafmmilaa
