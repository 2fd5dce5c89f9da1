/-
  Ranges over a function: what the body keeps, told by cells; the law with the frame told ahead; many marks at a function's end.
-/
import Derived.Test.YtcephfmafmmilaaOwn
import Derived.Test.YtcephfmafmmilaaMaps
import Derived.RangeFuncNested
import Derived.RangeFuncBound
import Derived.RangeFuncCalls
import Derived.RangeFuncLeaves
import Derived.Shelf.Abstract
namespace Go.Proofs.Ytcephfmafmmilaa
open Go.RowKit

theorem cell_isCells {w : World} {p : Addr} {v : Value} {o : Obj} (h : w.cell? p = some v) (ho : w.heap[p.block]? = some o) : o.isCells = true := by
  unfold World.cell? at h
  rw [ho] at h
  cases o <;> simp at h <;> rfl
/-- Cells in blocks of D stay as they are. -/
def KeepC (D : Nat → Prop) (W W' : World) : Prop := ∀ p v, D p.block → W.cell? p = some v → W'.cell? p = some v
theorem KeepC.trans {D : Nat → Prop} {X Y Z : World} (h : KeepC D X Y) (k : KeepC D Y Z) : KeepC D X Z := fun p v hD hc => k p v hD (h p v hD hc)
theorem KeepC.refl (D : Nat → Prop) (W : World) : KeepC D W W := fun _ _ _ h => h
theorem KeepC.obj {D : Nat → Prop} (W : World) (l : Nat) (o o' : Obj) (h : W.heap[l]? = some o) (hc : o.isCells = false) : KeepC D W (W.putObj l o') := fun p v _ hv => by
  by_cases e : p.block = l
  · have := cell_isCells hv (by rw [e]; exact h); rw [this] at hc; cases hc
  · exact (World.cell?_of_block (World.putObj_heap_other e)).trans hv
theorem KeepC.only {D S : Nat → Prop} {W W' : World} (h : Only S W W') (hd : ∀ k, D k → ¬ S k) : KeepC D W W' := fun _ _ hD hv => h.cell hv (hd _ hD)
theorem KeepC.pure {D : Nat → Prop} {W W' : World} (h : Pure W W') : KeepC D W W' := .only h (fun _ _ f => f)
theorem Ints.keepC {D D' : Nat → Prop} {w w' : World} {v : Value} {l : List Int} (h : Ints D w v l) (hk : KeepC D' w w') (hd : ∀ k, D k → D' k) : Ints D w' v l := by
  obtain ⟨a, len, cap, rfl, hl, hc, hm, hh⟩ := h
  exact ⟨a, len, cap, rfl, hl, hc, hm, fun i hi => by obtain ⟨b, o, e, d, r⟩ := hh i hi; exact ⟨b, o, e, d, hk _ _ (hd b d) r⟩⟩
theorem Ints.fresh {D : Nat → Prop} {w : World} {v : Value} {l : List Int} (h : Ints D w v l) : Ints (fun k => D k ∧ k < w.heap.size) w v l := by
  obtain ⟨a, len, cap, rfl, hl, hc, hm, hh⟩ := h
  exact ⟨a, len, cap, rfl, hl, hc, hm, fun i hi => by obtain ⟨b, o, e, d, r⟩ := hh i hi; exact ⟨b, o, e, ⟨d, World.block_lt_of_cell? w _ r⟩, r⟩⟩

/-- What the book-keeping of a range over a function may change. -/
structure Near (B : Nat) (W W' : World) : Prop where
  os : W'.os = W.os
  tape : W'.tape = W.tape
  output : W'.output = W.output
  size : W.heap.size ≤ W'.heap.size
  low : ∀ k, k < B → k < W.heap.size → W'.heap[k]? = W.heap[k]?
  cells : ∀ (k : Nat) (o : Obj), W.heap[k]? = some o → o.isCells = true → W'.heap[k]? = some o
theorem Near.cell {B : Nat} {W W' : World} (h : Near B W W') {p : Addr} {v : Value} (hv : W.cell? p = some v) : W'.cell? p = some v := by
  have hb := World.block_lt_of_cell? W p hv
  obtain ⟨o, ho⟩ : ∃ o, W.heap[p.block]? = some o := ⟨_, Array.getElem?_eq_getElem hb⟩
  exact (World.cell?_of_block ((h.cells _ _ ho (cell_isCells hv ho)).trans ho.symm)).trans hv
theorem Near.row {B : Nat} {W W' : World} (h : Near B W W') {k : Nat} {cs : Array Value} {t : TypeId} {fr : Nat × Nat} (hv : W.heap[k]? = some (.cells cs t fr)) : W'.heap[k]? = some (.cells cs t fr) := h.cells _ _ hv rfl
theorem Near.only {B : Nat} {S : Nat → Prop} {w W W' : World} (h : Near B W W') (ho : Only S w W) (hB : w.heap.size ≤ B) : Only S w W' :=
  ⟨h.os.trans ho.os, h.tape.trans ho.tape, h.output.trans ho.output, Nat.le_trans ho.size h.size, fun k hk hn => (h.low k (by omega) (Nat.lt_of_lt_of_le hk ho.size)).trans (ho.block k hk hn)⟩
theorem Near.map {κ : Type} [DecidableEq κ] {kv : κ → Value} {B : Nat} {W W' : World} {b : Nat} {f : κ → Option Value} (h : Near B W W') (hm : MapF kv W b f) (hb : b < B) : MapF kv W' b f := by
  obtain ⟨E, c, hm, hf⟩ := hm
  exact ⟨E, c, ⟨(h.low b hb (lt_of_block hm.heap)).trans hm.heap, hm.keys, hm.born, hm.lt⟩, hf⟩
theorem Near.ints {B : Nat} {D : Nat → Prop} {W W' : World} {v : Value} {l : List Int} (h : Near B W W') (hi : Ints D W v l) : Ints D W' v l := by
  obtain ⟨a, len, cap, rfl, hl, hc, hm, hh⟩ := hi
  exact ⟨a, len, cap, rfl, hl, hc, hm, fun i hi => by obtain ⟨b, o, e, d, r⟩ := hh i hi; exact ⟨b, o, e, d, h.cell r⟩⟩
theorem own_of {β : Type} {B : Nat} {I : β → World → Prop} (h : ∀ s W W', Near B W W' → I s W → I s W') : OwnFrom B I := fun s W W' row hs hg hr =>
  h s W W' ⟨hg.os, hg.tape, hg.output, hg.size, fun k hk hl => hg.block k hl (fun e => by have := (hr k e.symm).1; omega), fun k o ho hc => (hg.block k (lt_of_block ho) (fun e => by obtain ⟨_, o', ho', hc'⟩ := hr k e.symm; rw [ho] at ho'; cases ho'; rw [hc] at hc'; cases hc')).trans ho⟩ hs
theorem Near.alloc (B : Nat) (W : World) (o : Obj) : Near B W (W.alloc o) :=
  ⟨rfl, rfl, rfl, by simp, fun k _ hl => Below.heap_alloc _ _ _ hl, fun k o' ho _ => (Below.heap_alloc _ _ _ (lt_of_block ho)).trans ho⟩

variable {F : Fence} {n : Nat} {P : Program}
/-- The law where the loop's variables lie in no boxes: the frame of a round is a function of the frame ahead. -/
theorem wpIn_rangeFunc_act {α : Type} (f : α → Act → Act) {g : Operand} {ps : Array Tmp} {assign body : Code} {Q : Exit → Act → World → Prop} {a : Act} {w : World}
    (hro : F.round = none) (h1 : 1 ≤ n) {gf : Nat} {lb : Array Value} (hg : a.eval g = .func (.func gf) #[] lb) (hFg : F.fn gf) (eg : ∀ args w, (callFunc gf args).run P w = .ok (.enter gf args) w)
    {encs : α → Array Value} {Kp : World → World → Prop} {S Sp : List α → Prop} {N : Nat} {w0 : World} (hseq : SeqStopsK F (n - 1) P gf lb encs Kp S Sp N w0)
    (hKt : ∀ {A B C : World}, Kp A B → Kp B C → Kp A C) (hKb : ∀ (W : World) (l : Nat) (o o' : Obj), w.heap.size ≤ l → W.heap[l]? = some o → o.isCells = false → o.isWalk = false → Kp W (W.putObj l o')) (hb0 : Below w0.heap.size w0 w) (hps : ∀ x, (encs x).size = ps.size)
    (I : List α → World → Prop) (Ix : Code → List α → World → Prop) (hI : OwnFrom w.heap.size I) (hIx : ∀ c, OwnFrom w.heap.size (Ix c)) (h0 : I [] w)
    (hassign : ∀ (l : Nat) (pre : List α) (x : α) (W : World) (K : Act → World → Prop), I pre W → (∀ W', KeepsFrom w.heap.size W W' → Kp W W' → I pre W' → K (f x a) W') →
      assign.wpIn (F.inRound l) (n - 1 - 1) P (Exit.then K (fun _ _ _ => False)) { tmps := (ps.zip (encs x)).foldl (fun t (p, v) => t.setIfInBounds p v) a.tmps, defers := [] } W)
    (hbody : ∀ (l : Nat) (pre : List α) (x : α) (W : World), w.heap.size ≤ l → (∃ r, W.heap[l]? = some (.loop r)) → I pre W → pre.length < N → body.wpIn (F.inRound l) (n - 1 - 1) P (ownPostG w.heap.size Kp I Ix (pre ++ [x]) W) (f x a) W)
    (hdone : ∀ (D : Nat) (xs : List α) (W : World), w.heap.size ≤ D → S xs → I xs W → W.heap[D]? = some (.deferred (some [])) → Q .normal { a with defers := { target := .collected D, args := #[] } :: a.defers } W)
    (hstop : ∀ (D : Nat) (c : Code) (pre : List α) (W : World), w.heap.size ≤ D → Sp pre → Ix c pre W → W.heap[D]? = some (.deferred (some [])) → c.wpIn F n P Q { a with defers := { target := .collected D, args := #[] } :: a.defers } W) :
    (Code.rangeFunc g ps assign body).wpIn F n P Q a w :=
  wpIn_rangeFunc_ownH hro h1 hg hFg eg hseq hKt hKb hb0 hps I Ix hI hIx h0 (fun x a' _ => a' = f x a) (fun _ _ _ _ _ _ h _ _ => h)
    (fun l pre x W K hi hK => hassign l pre x W K hi (fun W' h1 h2 h3 => hK _ W' h1 h2 h3 rfl))
    (fun l pre x a' W hl hr hi ha hlen => by subst ha; exact hbody l pre x W hl hr hi hlen) hdone hstop

/-- The marks that ranges over functions have left in a frame. -/
def marks (Ds : List Nat) : List Deferred := Ds.map fun D => { target := .collected D, args := #[] }
structure Marked (B : Nat) (Ds : List Nat) (W : World) : Prop where
  nodup : Ds.Nodup
  at_ : ∀ D, D ∈ Ds → B ≤ D ∧ W.heap[D]? = some (.deferred (some []))
theorem Marked.nil (B : Nat) (W : World) : Marked B [] W := ⟨List.nodup_nil, fun _ h => by cases h⟩
theorem Marked.keep {B B' : Nat} {Ds : List Nat} {W W' : World} (h : Marked B Ds W) (hk : KeepsFrom B' W W') (hB : B' ≤ B) : Marked B Ds W' :=
  ⟨h.nodup, fun D hD => ⟨(h.at_ D hD).1, hk.same D _ (Nat.le_trans hB (h.at_ D hD).1) (h.at_ D hD).2 rfl⟩⟩
theorem Marked.only {B : Nat} {S : Nat → Prop} {Ds : List Nat} {W W' : World} (h : Marked B Ds W) (hk : Only S W W') (hS : ∀ D, D ∈ Ds → ¬ S D) : Marked B Ds W' :=
  ⟨h.nodup, fun D hD => ⟨(h.at_ D hD).1, hk.heap (h.at_ D hD).2 (hS D hD)⟩⟩
theorem Marked.cons {B : Nat} {Ds : List Nat} {W : World} {D : Nat} (h : Marked B Ds W) (hB : B ≤ D) (hD : W.heap[D]? = some (.deferred (some []))) (hn : D ∉ Ds) : Marked B (D :: Ds) W :=
  ⟨List.nodup_cons.2 ⟨hn, h.nodup⟩, fun E hE => by rcases List.mem_cons.1 hE with rfl | hE; exact ⟨hB, hD⟩; exact h.at_ E hE⟩
theorem Marked.lt {B : Nat} {Ds : List Nat} {W : World} (h : Marked B Ds W) : ∀ D, D ∈ Ds → D < W.heap.size := fun D hD => lt_of_block (h.at_ D hD).2
/-- A function's end behind many ranges over functions. -/
theorem leaves_marks {F : Fence} {n : Nat} {P : Program} {fn : Func} {tmps : Array Value} {R : Ending → World → Prop} {B : Nat} : ∀ (Ds : List Nat) (W : World), Marked B Ds W →
    (∀ W', Only (fun k => k ∈ Ds) W W' → LeavesInM F n P fn tmps R [] .returning W') → LeavesInM F n P fn tmps R (marks Ds) .returning W
  | [], W, _, h => h W (Only.refl _ _)
  | D :: Ds, W, hm, h => by
    have hD := (hm.at_ D (by simp)).2
    have hO : Only (fun k => k = D) W (W.putObj D (.deferred none)) := ⟨rfl, rfl, rfl, by simp [World.putObj], fun k _ hn => World.putObj_heap_other hn⟩
    refine ⟨by simp, .inl ⟨D, _, rfl, run_takeDeferred hD, leaves_marks (B := B) Ds _ ⟨(List.nodup_cons.1 hm.nodup).2, fun E hE => ⟨(hm.at_ E (by simp [hE])).1, ?_⟩⟩ ?_⟩⟩
    · exact hO.heap (hm.at_ E (by simp [hE])).2 (fun e => (List.nodup_cons.1 hm.nodup).1 (by subst e; exact hE))
    · intro W' hW
      refine h W' ((hO.mono ?_).trans (hW.mono ?_))
      · intro k _ e; subst e; simp
      · intro k _ e; simp [e]

/-- A function's end, by a return alone. -/
def retPost (F : Fence) (n : Nat) (P : Program) (fn : Func) (R : Ending → World → Prop) : Exit → Act → World → Prop
  | .normal, a, w => LeavesInM F n P fn a.tmps R a.defers .returning w
  | .ret, a, w => LeavesInM F n P fn a.tmps R a.defers .returning w
  | _, _, _ => False
theorem callsIn_of_ret {F : Fence} {n : Nat} {P : Program} {f : FuncId} {fn : Func} {c : Code} {args : Array Value} {w : World} {R : Ending → World → Prop}
    (hf : P.funcs[f]? = some fn) (hb : fn.body = some c) (hF : F.fn f)
    (h : c.wpIn F n P (retPost F n P fn R) { tmps := args ++ Array.replicate (fn.ntmps - args.size) undef, defers := [] } w) (hro : F.round = none := by rfl) : CallsIn F n P f args w R :=
  callsIn_of_wp_marks hf hb hF (wpIn_mono h (fun e a w h => by cases e <;> first | exact h | exact h.elim)) hro
theorem retPost_ret {F : Fence} {n : Nat} {P : Program} {fn : Func} {R : Ending → World → Prop} {a : Act} {w : World} (h : LeavesInM F n P fn a.tmps R a.defers .returning w) : retPost F n P fn R .ret a w := h
theorem retPost_normal {F : Fence} {n : Nat} {P : Program} {fn : Func} {R : Ending → World → Prop} {a : Act} {w : World} (h : LeavesInM F n P fn a.tmps R a.defers .returning w) : retPost F n P fn R .normal a w := h
theorem leaves_nil {F : Fence} {n : Nat} {P : Program} {fn : Func} {tmps : Array Value} {R : Ending → World → Prop} {w : World} (v : Value) (h : (results fn tmps).run P w = .ok v w) (hR : R (.returned v) w) : LeavesInM F n P fn tmps R [] .returning w := ⟨v, h, hR⟩
end Go.Proofs.Ytcephfmafmmilaa
