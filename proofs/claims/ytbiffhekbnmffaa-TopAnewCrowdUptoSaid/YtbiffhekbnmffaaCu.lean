/-
  Room.
-/
import Derived.Test.YtbiffhekbnmffaaCt
import Derived.Test.YtbiffhekbnmffaaRound
namespace Go.Proofs.Ytbiffhekbnmffaa
open Go.RowKit Go.Shelf
attribute [local go_sem] Oper.semAt_some

theorem roomTo_snoc (h : Hall) (k m : Int) (ss : List (Int × Int)) (x : Int × Int) : roomTo h k m (ss ++ [x]) = roomStep h k m (roomTo h k m ss) x := by simp [roomTo, List.foldl_append]
theorem roomTo_none {h : Hall} {k m : Int} {l l' : List (Int × Int)} (hp : l <+: l') (hn : roomTo h k m l = none) : roomTo h k m l' = none := by
  obtain ⟨t, rfl⟩ := hp
  unfold roomTo at *
  rw [List.foldl_append, hn]
  clear hn
  induction t with
  | nil => rfl
  | cons x t ih => exact ih
/-- The boxes of Room, between two rounds; S is the first block of the call, B the one behind the check, R the one behind the window. -/
structure Rooming (w : World) (B R b M : Nat) (pv : Value) (l : List Person) (h : Hall) (k m : Int) (pre : List VSpan) (W : World) : Prop where
  kb : W.heap[w.heap.size + 1]? = some (.cells #[.int .i64 k] 3 (0, 0))
  mb : W.heap[w.heap.size + 2]? = some (.cells #[.int .i64 m] 2 (0, 0))
  r0 : W.heap[w.heap.size + 3]? = some (.cells #[.int .i64 0] 3 (0, 0))
  r1 : W.heap[w.heap.size + 4]? = some (.cells #[.int .i64 0] 35 (0, 0))
  ptr : W.heap[B]? = some (.cells #[.pointer (some ⟨b, 0, none⟩)] 68 (0, 0))
  room : ∃ r : Int, roomTo h k m (vals pre) = some r ∧ W.heap[R]? = some (.cells #[.int .i64 r] 3 (0, 0))
  seq : W.heap[R + 1]? = some (.cells #[.pointer (some ⟨b, 0, none⟩)] 68 (0, 0))
  floor : W.heap[b]? = some (.cells #[.int .i64 M, pv] 98 (0, 0))
  below : Below w.heap.size w W
  people : People (fun k => k < w.heap.size) W pv l
theorem rooming_own {w : World} {B R b M : Nat} {pv : Value} {l : List Person} {h : Hall} {k m : Int} (C : Nat) (hC : w.heap.size ≤ C) : OwnFrom C (Rooming w B R b M pv l h k m) := fun s X Y row hs hg hr => by
  have key : ∀ {k : Nat} {cs : Array Value} {t : TypeId}, X.heap[k]? = some (.cells cs t (0, 0)) → Y.heap[k]? = some (.cells cs t (0, 0)) := fun {k cs t} h =>
    (hg.block k (lt_of_block h) (fun e => by obtain ⟨_, o, ho, hc⟩ := hr k e.symm; rw [h] at ho; cases ho; cases hc)).trans h
  obtain ⟨r, hr1, hr2⟩ := hs.room
  exact ⟨key hs.kb, key hs.mb, key hs.r0, key hs.r1, key hs.ptr, ⟨r, hr1, key hr2⟩, key hs.seq, key hs.floor, hs.below.grown hg hs.below.size (fun k e => Nat.le_trans hC (hr k e).1), hs.people.keep ((Only.refl (fun k => row = some k) X).grown hg (fun k e => .inl e)) (fun k hk e => by have := (hr k e).1; omega)⟩
theorem Rooming.pure {w W W' : World} {B R b M : Nat} {pv : Value} {l : List Person} {h : Hall} {k m : Int} {pre : List VSpan} (hs : Rooming w B R b M pv l h k m pre W) (hp : Pure W W') : Rooming w B R b M pv l h k m pre W' := by
  obtain ⟨r, hr1, hr2⟩ := hs.room
  exact ⟨hp.heap hs.kb (fun f => f), hp.heap hs.mb (fun f => f), hp.heap hs.r0 (fun f => f), hp.heap hs.r1 (fun f => f), hp.heap hs.ptr (fun f => f), ⟨r, hr1, hp.heap hr2 (fun f => f)⟩, hp.heap hs.seq (fun f => f), hp.heap hs.floor (fun f => f), hs.below.trans (below_of_pure hp hs.below.size), hs.people.pure hp⟩
theorem Rooming.congr {w W : World} {B R b M : Nat} {pv : Value} {l : List Person} {h : Hall} {k m : Int} {pre pre' : List VSpan} (hs : Rooming w B R b M pv l h k m pre W) (e : roomTo h k m (vals pre') = roomTo h k m (vals pre)) : Rooming w B R b M pv l h k m pre' W :=
  ⟨hs.kb, hs.mb, hs.r0, hs.r1, hs.ptr, by rw [e]; exact hs.room, hs.seq, hs.floor, hs.below, hs.people⟩
theorem Rooming.store {w W : World} {B R b M : Nat} {pv : Value} {l : List Person} {h : Hall} {k m : Int} {pre pre' : List VSpan} (hs : Rooming w B R b M pv l h k m pre W) (hB : w.heap.size + 4 < B) (hR : B < R) (hb : b < B) (hbw : w.heap.size ≤ b) (n : Int) (e : roomTo h k m (vals pre') = some n) :
    Rooming w B R b M pv l h k m pre' (W.setCell ⟨R, 0, none⟩ (.int .i64 n)) := by
  have other : ∀ {k : Nat} {o : Obj}, W.heap[k]? = some o → k ≠ R → (W.setCell ⟨R, 0, none⟩ (.int .i64 n)).heap[k]? = some o := fun {k o} h hne => (Below.heap_setCell W ⟨R, 0, none⟩ _ k hne).trans h
  obtain ⟨r, _, hr2⟩ := hs.room
  have hO : Only (fun k => k = R) W (W.setCell ⟨R, 0, none⟩ (.int .i64 n)) := (Only.refl (fun k => k = R) W).setCell (p := ⟨R, 0, none⟩) (.inl rfl) _
  exact ⟨other hs.kb (by omega), other hs.mb (by omega), other hs.r0 (by omega), other hs.r1 (by omega), other hs.ptr (by omega), ⟨n, e, heap_setCell_same W _ 0 _ _ (.int .i64 n) hr2⟩, other hs.seq (by omega), other hs.floor (by omega), hs.below.setCell (p := ⟨R, 0, none⟩) (by simp; omega) _, hs.people.keep hO (fun k hk e => by omega)⟩

theorem results32 (W : World) (tmps : Array Value) (g g2 : Nat) (x s : Int) (hg : W.heap[g]? = some (.cells #[.int .i64 x] 3 (0, 0))) (hg2 : W.heap[g2]? = some (.cells #[.int .i64 s] 35 (0, 0))) (h2 : tmps[6]?.getD undef = .pointer (some ⟨g, 0, none⟩)) (h3 : tmps[7]?.getD undef = .pointer (some ⟨g2, 0, none⟩)) :
    (results Try.f32 tmps).run Try.prog W = .ok (.tuple #[.int .i64 x, .int .i64 s]) W := by
  have E0 : W.cell? ⟨g, 0, none⟩ = some (.int .i64 x) := cell_of_row _ _ _ _ _ _ hg
  have E1 : W.cell? ⟨g2, 0, none⟩ = some (.int .i64 s) := cell_of_row _ _ _ _ _ _ hg2
  simp only [results, Try.f32] at *
  simp [go_sem, h2, h3, E0, E1]
theorem res32_store {W : World} {g : Nat} {x0 y0 : Value} (h0 : W.heap[g]? = some (.cells #[x0] 3 (0, 0))) (h1 : W.heap[g + 1]? = some (.cells #[y0] 35 (0, 0))) (x y : Int) :
    ((W.setCell ⟨g, 0, none⟩ (.int .i64 x)).setCell ⟨g + 1, 0, none⟩ (.int .i64 y)).heap[g]? = some (.cells #[.int .i64 x] 3 (0, 0)) ∧ ((W.setCell ⟨g, 0, none⟩ (.int .i64 x)).setCell ⟨g + 1, 0, none⟩ (.int .i64 y)).heap[g + 1]? = some (.cells #[.int .i64 y] 35 (0, 0)) := by
  refine ⟨(Below.heap_setCell _ ⟨g + 1, 0, none⟩ _ g (by simp)).trans (heap_setCell_same W _ 0 _ _ (.int .i64 x) h0), ?_⟩
  exact heap_setCell_same _ _ 0 _ _ (.int .i64 y) ((Below.heap_setCell _ ⟨g, 0, none⟩ _ (g + 1) (by simp)).trans h1)
end Go.Proofs.Ytbiffhekbnmffaa
