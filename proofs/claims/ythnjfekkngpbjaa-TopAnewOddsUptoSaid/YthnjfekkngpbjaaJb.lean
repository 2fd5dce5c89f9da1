/-
  Parts of the proof: Region, Mixed, Mixedg, Seqs, Round, Om, Oa, Ups, Ob, Roundm, Oc, Od, Lay.
-/
import Derived.Test.YthnjfekkngpbjaaJa
import Derived.StillTail
import Derived.RangeFuncNested
import Derived.RangeFuncBound
import Derived.RangeFuncCalls
import Derived.RangeFuncLeaves
import Derived.Shelf.Abstract
import Derived.OrdersIn
import Derived.Shelf.RegionOpen
import Derived.WalkKit
import Derived.WalkMore
import Derived.OwnWalkIn
import Derived.TacticsInMore
import Derived.LoopNIn
import Derived.LoopIn
import Derived.ChangeKeysEq
import Derived.Deep.CutRange
import Derived.Deep.DeepCutAuto
/- Regions that draw their order: operations that read, and callees that make memory of their own, in one walk of the text's order; with a tail that comes last in every order. -/
namespace Go.Proofs.Ythnjfekkngpbjaa
open Go.RowKit

/-- What a world has grown by: new blocks, and a count of draws. -/
structure Growth where
  objs : List Obj
  drawn : Nat
instance : Inhabited Growth := ⟨⟨[], 0⟩⟩
def grow (w : World) (g : Growth) : World := { w with heap := w.heap ++ g.objs.toArray, drawn := g.drawn }

theorem grow_heap (w : World) (g : Growth) (k : Nat) (h : k < w.heap.size) : (grow w g).heap[k]? = w.heap[k]? := by
  simp [grow, Array.getElem?_append_left h]
theorem grow_cell {w : World} {a : Addr} {v : Value} (h : w.cell? a = some v) (g : Growth) : (grow w g).cell? a = some v :=
  (World.cell?_of_block (grow_heap w g a.block (World.block_lt_of_cell? w a h))).trans h
theorem grow_pure (w : World) (g : Growth) : Only (fun _ => False) w (grow w g) := ⟨rfl, rfl, rfl, by simp [grow], fun k hk _ => grow_heap w g k hk⟩
theorem pure_grow {w w' : World} (h : Only (fun _ => False) w w') : ∃ g, w' = grow w g := by
  refine ⟨⟨(w'.heap.toList.drop w.heap.size), w'.drawn⟩, ?_⟩
  have hh : w'.heap = w.heap ++ (w'.heap.toList.drop w.heap.size).toArray := by
    apply Array.ext_getElem?
    intro k
    by_cases hk : k < w.heap.size
    · rw [Array.getElem?_append_left hk, h.block k hk (fun f => f)]
    · rw [Array.getElem?_append_right (by omega)]
      simp only [List.getElem?_toArray, List.getElem?_drop, Array.getElem?_toList]
      congr 1; omega
  obtain ⟨heap, tape, drawn, os, output⟩ := w'
  have h1 := h.os; have h2 := h.tape; have h3 := h.output
  simp only at h1 h2 h3 hh
  simp only [grow, h1, h2, h3]
  rw [← hh]
theorem grow_grow (w : World) (g g' : Growth) : grow (grow w g) g' = grow w ⟨g.objs ++ g'.objs, g'.drawn⟩ := by
  simp [grow]
/-- A callee that makes memory of its own, met in a grown world. -/
theorem calls_grow {P : Program} {f : FuncId} {args : Array Value} {w : World} {g : Growth} {v : Value}
    (h : Calls P f args (grow w g) fun e w' => e = .returned v ∧ Only (fun _ => False) (grow w g) w') : Calls P f args (grow w g) fun e w'' => e = .returned v ∧ ∃ g', w'' = grow w g' :=
  h.mono fun _ _ ⟨he, hp⟩ => ⟨he, by obtain ⟨g', rfl⟩ := pure_grow hp; exact ⟨_, grow_grow w g g'⟩⟩

theorem wp_region_grow {P : Program} {id : Nat} {Q : Exit → Act → World → Prop} {a : Act} {w : World} {l : List Oper} (hm : P.follows .mixedOrders = true) (hB : Region.lexB .any l.toArray = true)
    (h : wpQuiet P l.toArray (fun w' => ∃ g, w' = grow w g) (fun a' => ∀ w', (∃ g, w' = grow w g) → Q .normal a' w') l a) : (Code.region id l.toArray true).wp P Q a w :=
  wp_region_quiet (C := fun w' => ∃ g, w' = grow w g) hm hB ⟨⟨[], w.drawn + 1⟩, by simp [grow]⟩ (by simpa using h)

/-! ### With a tail -/
section
variable {P : Program} {ops : Array Oper} {md : Region.Mode} {C : World → Prop}

def wpAnyLQ (P : Program) (md : Region.Mode) (ops : Array Oper) (C : World → Prop) (n : Nat) (L : Array Bool → Act → Prop) : Nat → Array Bool → Act → Prop
  | 0, listed, a => L listed a
  | f + 1, listed, a =>
    Region.ready md ops listed ≠ [] ∧ ∀ i ∈ Region.ready md ops listed, i < n ∧ qOp P ops C i (wpAnyLQ P md ops C n L f (listed.setIfInBounds i true)) a

theorem wpAny_of_headQ {n g : Nat} {L : Array Bool → Act → Prop} {Q' : Exit → Act → World → Prop} (hL : ∀ listed a w, C w → L listed a → wpAny P md ops Q' g listed a w) :
    ∀ (f : Nat) (listed : Array Bool) (a : Act) (w : World), C w → wpAnyLQ P md ops C n L f listed a → wpAny P md ops Q' (f + g) listed a w
  | 0, listed, a, w, hw, h => by rw [Nat.zero_add]; exact hL _ _ _ hw h
  | f + 1, listed, a, w, hw, h => by
    rw [show f + 1 + g = (f + g) + 1 by omega]
    exact ⟨fun h0 => absurd h0 h.1, fun i hi => wpOp_of_qOp hw (fun a' w' hw' h' => wpAny_of_headQ hL f _ a' w' hw' h') (h.2 i hi).2⟩

theorem wpAnyLQ_first {n i : Nat} {oi : Oper} {v : Value} {L : Array Bool → Act → Prop} (hi : ops[i]? = some oi) (hsel : ∀ (j : Nat) (o : Oper) cs b, ops[j]? = some o → o.op ≠ .select cs b)
    (hs : Region.sinkB md ops n = true) (hc : Region.chainB md ops n = true) (hn : n < ops.size) (hin : i < n)
    (hdone : ∀ listed a, L listed a → ∀ j ∈ Region.ready md ops listed, n ≤ j) :
    ∀ (f : Nat) (listed : Array Bool) (a : Act), HeadInv md ops n listed →
      (∀ j oj, ops[j]? = some oj → j ≠ i → listed.getD j true = false → (∀ e ∈ oj.after, Region.binds md e = true → e.on ≠ i) → oi.apart ops oj = true) →
      i ∈ Region.ready md ops listed → YieldsIn P ops C oi v a →
      wpAnyLQ P md ops C n L f (listed.setIfInBounds i true) (a.put oi.dst v) → wpAnyLQ P md ops C n L (f + 1) listed a := by
  intro f
  induction f with
  | zero =>
    intro listed a inv _ hr hy H
    have hun := (mem_ready.1 hr).1
    refine ⟨fun h => (by rw [h] at hr; cases hr), fun j hj => ?_⟩
    have hjn : j < n := by
      rcases Nat.lt_or_ge j n with h | h
      · exact h
      · exact absurd hj (tail_waits hs hc hn inv _ i rfl hin hun j h)
    refine ⟨hjn, ?_⟩
    by_cases hji : j = i
    · subst hji; exact hy.qOp hi H
    · have := hdone _ _ H j (ready_mono hj hji)
      omega
  | succ f ih =>
    intro listed a inv hfree hr hy H
    have hun := (mem_ready.1 hr).1
    refine ⟨fun h => (by rw [h] at hr; cases hr), fun j hj => ?_⟩
    have hjn : j < n := by
      rcases Nat.lt_or_ge j n with h | h
      · exact h
      · exact absurd hj (tail_waits hs hc hn inv _ i rfl hin hun j h)
    refine ⟨hjn, ?_⟩
    by_cases hji : j = i
    · subst hji; exact hy.qOp hi H
    · have h1 := (H.2 j (ready_mono hj hji)).2
      obtain ⟨hjun, oj, hoj, hall⟩ := mem_ready.1 hj
      have hnot : ∀ e ∈ oj.after, Region.binds md e = true → e.on ≠ i := fun e he hb heq => by
        have h1 := hall e he hb
        rw [heq, getD_both hun] at h1
        cases h1
      have h2 := qOp_put hoj (hfree j oj hoj hji hjun hnot) (fun cs b => hsel i oi cs b hi) (fun cs b => hsel j oj cs b hoj) hy h1
      have hfree' : ∀ k ok, ops[k]? = some ok → k ≠ i → (listed.setIfInBounds j true).getD k true = false →
          (∀ e ∈ ok.after, Region.binds md e = true → e.on ≠ i) → oi.apart ops ok = true := fun k ok hk hki hun hno => by
        refine hfree k ok hk hki ?_ hno
        by_cases hjk : j = k
        · subst hjk; exact hjun
        · rw [getD_set_ne true hjk] at hun; exact hun
      refine qOp_mono (fun a' h3 => ih (listed.setIfInBounds j true) a' (inv.set hj hjn) hfree' (ready_mono hr (Ne.symm hji)) h3.1 ?_) h2
      rw [Array.setIfInBounds_comm _ _ hji]
      exact h3.2

theorem wpAnyLQ_lex {n g : Nat} {Lq : Act → Prop} (hsel : Region.noSelect ops = true) (hs : Region.sinkB md ops n = true) (hc : Region.chainB md ops n = true) (hn : n < ops.size) :
    ∀ (l : List Oper) (k : Nat) (listed : Array Bool) (a : Act), (∀ j, j < l.length → l[j]? = ops[k + j]?) → k + l.length = n → HeadInv md ops n listed →
    Region.lexHead md ops g l.length k listed = true → wpQuiet P ops C Lq l a →
    wpAnyLQ P md ops C n (fun listed' a' => Region.seqB md ops g n listed' = true ∧ Lq a') l.length listed a
  | [], k, listed, a, _, hk, _, hB, h => by
    have : k = n := by simpa using hk
    subst this
    exact ⟨by simpa [Region.lexHead] using hB, h⟩
  | o :: l, k, listed, a, hl, hk, inv, hB, h => by
    have h0 : ops[k]? = some o := by simpa using (hl 0 (by simp)).symm
    simp only [List.length_cons, Region.lexHead, Bool.and_eq_true] at hB
    obtain ⟨⟨hr, hf⟩, hB'⟩ := hB
    have hkn : k < n := by simp only [List.length_cons] at hk; omega
    have hr' : k ∈ Region.ready md ops listed := by simpa using hr
    have hst : qOp P ops C k (wpQuiet P ops C Lq l) a := by unfold qOp; simp only [h0]; exact h
    obtain ⟨v, hy, hK⟩ := yieldsIn_of_qOp h0 hst
    exact wpAnyLQ_first h0 (Region.noSelect_spec hsel) hs hc hn hkn (fun listed' a' hL => seqB_ready hL.1) l.length listed a inv (Region.free_spec h0 hf) hr' hy
      (wpAnyLQ_lex hsel hs hc hn l (k + 1) _ _ (fun j hj => by have := hl (j + 1) (by simp; omega); simpa [Nat.add_assoc, Nat.add_comm 1 j] using this) (by simp only [List.length_cons] at hk; omega) (inv.set hr' hkn) hB' hK)

/-- A region that draws its order: a quiet head, and a tail that comes last in every order. -/
theorem wp_region_tail {id : Nat} {Q : Exit → Act → World → Prop} {a : Act} {w : World} {l : List Oper} (n : Nat) (hm : P.follows .mixedOrders = true) (hB : Region.lexTailB .any l.toArray n = true) (hC : C { w with drawn := w.drawn + 1 })
    (h : wpQuiet P l.toArray C (fun a' => ∀ w', C w' → wpList P l.toArray Q (l.drop n) a' w') (l.take n) a) : (Code.region id l.toArray true).wp P Q a w := by
  simp only [Region.lexTailB, Bool.and_eq_true, decide_eq_true_eq] at hB
  obtain ⟨⟨⟨⟨hsel, hn⟩, hs⟩, hc⟩, hlex⟩ := hB
  have hn' : n < l.length := by simpa using hn
  have htl : (l.take n).length = n := by simp; omega
  have hdl : (l.drop n).length = l.toArray.size - n := by simp
  have inv0 : HeadInv .any l.toArray n (Array.replicate l.toArray.size false) :=
    ⟨by simp, fun j oj _ hl => (by rw [getD_replicate_false] at hl; cases hl), fun t _ ht => getD_in (by simpa using ht) (getD_replicate_false _ _)⟩
  have H := wpAnyLQ_lex (md := .any) (g := l.toArray.size - n) hsel hs hc hn (l.take n) 0 _ a (fun j hj => by
    have hj' : j < n := by rw [htl] at hj; exact hj
    simp [hj']) (by simpa using htl) inv0 (by rw [htl]; exact hlex) h
  refine wp_region_any hm ?_
  have := wpAny_of_headQ (Q' := Q) (g := l.toArray.size - n) (fun listed a' w' hw' hL => by
    have := wpAny_of_seq (md := .any) (Q' := Q) (l.drop n) n listed a' w' (fun j => by simp [List.getElem?_drop]) (by rw [hdl]; exact hL.1) (hL.2 w' hw')
    rwa [hdl] at this) _ _ _ _ hC H
  rw [htl, show n + (l.toArray.size - n) = l.toArray.size by omega] at this
  exact this
theorem wp_region_grow_tail {id : Nat} {Q : Exit → Act → World → Prop} {a : Act} {w : World} {l : List Oper} (n : Nat) (hm : P.follows .mixedOrders = true) (hB : Region.lexTailB .any l.toArray n = true)
    (h : wpQuiet P l.toArray (fun w' => ∃ g, w' = grow w g) (fun a' => ∀ w', (∃ g, w' = grow w g) → wpList P l.toArray Q (l.drop n) a' w') (l.take n) a) : (Code.region id l.toArray true).wp P Q a w :=
  wp_region_tail (C := fun w' => ∃ g, w' = grow w g) n hm hB ⟨⟨[], w.drawn + 1⟩, by simp [grow]⟩ h
theorem wp_region_drew_tail {id : Nat} {Q : Exit → Act → World → Prop} {a : Act} {w : World} {l : List Oper} (n : Nat) (hm : P.follows .mixedOrders = true) (hB : Region.lexTailB .any l.toArray n = true)
    (h : wpQuiet P l.toArray (fun w' => ∃ n, w' = w.drewN n) (fun a' => ∀ w', (∃ n, w' = w.drewN n) → wpList P l.toArray Q (l.drop n) a' w') (l.take n) a) : (Code.region id l.toArray true).wp P Q a w :=
  wp_region_tail (C := fun w' => ∃ n, w' = w.drewN n) n hm hB ⟨1, rfl⟩ h
end
end Go.Proofs.Ythnjfekkngpbjaa

/- A region that draws its order, with operations that make memory or call: what only reads is taken first, the rest comes in a forced order. -/
namespace Go.Proofs.Ythnjfekkngpbjaa
open Go.RowKit

/-- An operation that calls no Go function. -/
def plainB (o : Oper) : Bool :=
  match o.op with
  | .move _ | .assign _ | .pick .. | .build .. | .load .. | .nilCheck _ | .binOp .. | .unOp .. | .slice .. | .fieldAddr .. | .field .. | .indexAddr .. | .index .. | .lookup .. | .extract .. | .makeFunc .. | .convert .. => true
  | .call c => match c.callee with
    | .builtin .len => true
    | .builtin .min => true
    | .builtin .max => true
    | _ => false
  | _ => false

def noE (P : Program) (s : Sem Next) : Prop := ∀ w w' f args, s.run P w ≠ .ok (.enter f args) w'
theorem noE_pure {P : Program} (u : Value) : noE P (pure (Next.value u)) := fun w w' f args => by simp
theorem noE_bind {P : Program} {α : Type} {s : Sem α} {g : α → Sem Next} (h : ∀ a, noE P (g a)) : noE P (s >>= g) := fun w w' f args => by
  rw [Sem.run_bind]
  cases hs : s.run P w with
  | ok a w1 => simpa using h a w1 w' f args
  | halt x w1 => simp
theorem noE_panic {P : Program} : noE P (runtimePanic .nilDeref) := fun w w' f args => by
  simp [runtimePanic, goPanic, go_sem]
theorem plain_noEnter {P : Program} {o : Oper} (h : plainB o = true) (ρ : Operand → Value) : noE P (execOp ρ o) := by
  have key : ∀ (s : Sem Value), noE P (do pure (Next.value (← s))) := fun s => noE_bind fun a => noE_pure a
  unfold plainB at h
  unfold execOp
  cases ho : o.op <;> simp only [ho] at h ⊢ <;> first | exact absurd h (by decide) | exact key _ | exact noE_pure _ | skip
  case pick c a b => exact noE_bind fun _ => noE_pure _
  case nilCheck x =>
    split
    · exact noE_panic
    · exact noE_panic
    · exact noE_panic
    · split
      · exact noE_panic
      · refine noE_bind fun a => noE_bind fun b => ?_
        split
        · exact noE_bind fun _ => noE_pure _
        · exact noE_pure _
      · exact noE_pure _
    · exact noE_pure _
  case call c =>
    unfold resolve
    split at h
    all_goals first | exact absurd h (by decide) | skip
    all_goals rename_i hc; simp only [hc]
    all_goals intro w w' f args
    all_goals rw [Sem.run_bind, Sem.run_pure]
    all_goals simp only [Result.andThen_ok, invoke, builtin]
    all_goals exact key _ w w' f args

section
variable {P : Program} {ops : Array Oper} {md : Region.Mode} {G : World → Prop} {Q : Exit → Act → World → Prop}

/-- The last operation, where it comes behind all others. -/
def lastB (md : Region.Mode) (ops : Array Oper) (j : Nat) : Bool :=
  j + 1 == ops.size && match ops[j]? with
    | some o => (List.range j).all fun i => o.after.any fun e => Region.binds md e && e.on == i
    | none => false
theorem lastB_spec {md : Region.Mode} {ops : Array Oper} {j i : Nat} {oj : Oper} (h : lastB md ops j = true) (hj : ops[j]? = some oj) (hi : i < ops.size) (hne : i ≠ j) : ∃ e ∈ oj.after, Region.binds md e = true ∧ e.on = i := by
  unfold lastB at h
  simp only [hj, Bool.and_eq_true, beq_iff_eq, List.all_eq_true, List.mem_range] at h
  obtain ⟨e, he, hb⟩ := Array.any_eq_true'.1 (h.2 i (by omega))
  simp only [Bool.and_eq_true, beq_iff_eq] at hb
  exact ⟨e, he, hb⟩

/-- Whatever order is picked from here on, every operation but the last leaving a world of the class. -/
def wpAnyG (P : Program) (md : Region.Mode) (ops : Array Oper) (G : World → Prop) (Q : Exit → Act → World → Prop) : Nat → Array Bool → Act → World → Prop
  | 0, listed, a, w => Region.ready md ops listed = [] ∧ Q .normal a w
  | f + 1, listed, a, w => (Region.ready md ops listed = [] → Q .normal a w) ∧
    ∀ i ∈ Region.ready md ops listed, wpOp P ops Q i (fun a' w' => (lastB md ops i = false → G w') ∧ wpAnyG P md ops G Q f (listed.setIfInBounds i true) a' w') a w

theorem wpAny_of_G : ∀ (f : Nat) (listed : Array Bool) (a : Act) (w : World), wpAnyG P md ops G Q f listed a w → wpAny P md ops Q f listed a w
  | 0, _, _, _, h => h
  | f + 1, _, _, _, h => ⟨h.1, fun i hi => wpOp_mono (fun a' w' h' => wpAny_of_G f _ a' w' h'.2) (h.2 i hi)⟩

/-- In state 'a', in every world of the class, operation 'o' leaves 'v' in its temporary and the world as it is. -/
def YieldsG (P : Program) (ops : Array Oper) (G : World → Prop) (o : Oper) (v : Value) (a : Act) : Prop :=
  (Region.wanted o (yielded ops a.tmps) = true ∧ ∀ w, G w → ((execOp a.eval o).run P w = .ok (.value v) w ∨ ((execOp a.eval o).run P w = .ok .skip w ∧ v = undef))) ∨
  (Region.wanted o (yielded ops a.tmps) = false ∧ v = undef)

theorem YieldsG.of_same {o : Oper} {v : Value} {a a' : Act} (hy : YieldsG P ops G o v a) (he : execOp a'.eval o = execOp a.eval o)
    (hw : Region.wanted o (yielded ops a'.tmps) = Region.wanted o (yielded ops a.tmps)) : YieldsG P ops G o v a' := by
  unfold YieldsG at *
  rw [he, hw]
  exact hy

theorem yieldsG_of_in {o : Oper} {v : Value} {a : Act} (hp : plainB o = true) (hy : YieldsIn P ops G o v a) : YieldsG P ops G o v a := by
  rcases hy with ⟨hw, h⟩ | h
  · refine .inl ⟨hw, fun w hg => ?_⟩
    have h1 := h w hg
    unfold Oper.quietAt at h1
    have hn := plain_noEnter (P := P) hp a.eval w
    generalize (execOp a.eval o).run P w = r at h1 hn
    cases r with
    | ok n w' =>
      cases n <;> simp only [Oper.quietUpon] at h1
      case value u => obtain ⟨rfl, rfl⟩ := h1; exact .inl rfl
      case skip => obtain ⟨rfl, rfl⟩ := h1; exact .inr ⟨rfl, rfl⟩
      case enter f args => exact absurd rfl (hn w' f args)
    | halt x w' => simp only [Oper.quietUpon] at h1
  · exact .inr h

theorem YieldsG.wpOp {i : Nat} {o : Oper} {v : Value} {a : Act} {w : World} (hi : ops[i]? = some o) (hg : G w) (hy : YieldsG P ops G o v a) {K : Act → World → Prop} (h : K (a.put o.dst v) w) : wpOp P ops Q i K a w := by
  unfold Go.wpOp
  simp only [hi]
  rcases hy with ⟨hw, hv⟩ | ⟨hw, rfl⟩
  · simp only [hw, if_true]
    rcases hv w hg with h1 | ⟨h1, rfl⟩
    · simp only [Oper.wp, h1, Oper.upon]; exact .inl h
    · simp only [Oper.wp, h1, Oper.upon]; exact .inl h
  · simp only [hw, Bool.false_eq_true, if_false]; exact h

theorem wpOp_putG {j : Nat} {oi oj : Oper} {v : Value} (hj : ops[j]? = some oj) (hap : oi.apart ops oj = true)
    (hsi : ∀ cs b, oi.op ≠ .select cs b) (hsj : ∀ cs b, oj.op ≠ .select cs b)
    (hQ : ∀ c a w, Q (.panic c) (a.put oi.dst v) w → Q (.panic c) a w) {K : Act → World → Prop} {a : Act} {w : World}
    (hy : YieldsG P ops G oi v a) (h : wpOp P ops Q j K (a.put oi.dst v) w) :
    wpOp P ops Q j (fun a' w' => YieldsG P ops G oi v a' ∧ K (a'.put oi.dst v) w') a w := by
  obtain ⟨h1, h2, h3⟩ := Oper.apart_spec hap
  have keep : ∀ (a : Act), YieldsG P ops G oi v a → ∀ u, YieldsG P ops G oi v (a.put oj.dst u) := fun a hy u =>
    hy.of_same (execOp_put oi hsi a oj.dst u h3) (wanted_put oi a oj.dst u h3)
  have keepD : ∀ d, YieldsG P ops G oi v { a with defers := d :: a.defers } := fun d => hy.of_same rfl rfl
  unfold wpOp at *
  simp only [hj] at *
  rw [wanted_put oj a oi.dst v h1] at h
  split
  · rename_i hw
    simp only [hw, if_true] at h
    rcases h with h | ⟨hasks, hlets⟩
    case inr => exact .inr ⟨by unfold Oper.asks at *; rw [execOp_put oj hsj a oi.dst v h1] at hasks; exact hasks, hlets⟩
    refine .inl ?_
    unfold Oper.wp at *
    rw [execOp_put oj hsj a oi.dst v h1] at h
    generalize (execOp a.eval oj).run P w = r at *
    cases r with
    | ok n w' =>
      cases n <;> simp only [Oper.upon] at h ⊢
      case value u => exact ⟨keep a hy u, by rw [← Act.put_comm a v u h2]; exact h⟩
      case skip => exact ⟨keep a hy _, by rw [← Act.put_comm a v undef h2]; exact h⟩
      case defer d =>
        refine ⟨keep _ (keepD d) _, ?_⟩
        rw [← Act.put_comm _ v undef h2, ← Act.put_defers]
        exact h
      case enter f args =>
        refine Calls.mono h fun e w'' he => ?_
        cases e with
        | returned u => exact ⟨keep a hy u, by rw [← Act.put_comm a v u h2]; exact he⟩
        | panicked c => exact hQ _ _ _ he
        | outgrown => exact he
      case row row args => exact Rows.mono h fun u w'' he => ⟨keep a hy u, by rw [← Act.put_comm a v u h2]; exact he⟩
    | halt x w' =>
      cases x <;> simp only [Oper.upon] at h ⊢
      case panic u => exact hQ _ _ _ h
  · rename_i hw
    simp only [hw] at h
    exact ⟨keep a hy _, by rw [← Act.put_comm a v undef h2]; exact h⟩

theorem wpAnyG_first {i : Nat} {oi : Oper} {v : Value} (hi : ops[i]? = some oi) (hsel : ∀ (j : Nat) (o : Oper) cs b, ops[j]? = some o → o.op ≠ .select cs b)
    (hQ : ∀ c a w, Q (.panic c) (a.put oi.dst v) w → Q (.panic c) a w) :
    ∀ (f : Nat) (listed : Array Bool) (a : Act) (w : World), G w →
      (∀ j oj, ops[j]? = some oj → j ≠ i → listed.getD j true = false → (∀ e ∈ oj.after, Region.binds md e = true → e.on ≠ i) → oi.apart ops oj = true) →
      i ∈ Region.ready md ops listed → YieldsG P ops G oi v a →
      wpAnyG P md ops G Q f (listed.setIfInBounds i true) (a.put oi.dst v) w → wpAnyG P md ops G Q (f + 1) listed a w := by
  intro f
  induction f with
  | zero =>
    intro listed a w hg _ hr hy H
    refine ⟨fun h => (by rw [h] at hr; cases hr), fun j hj => ?_⟩
    by_cases hji : j = i
    · subst hji; exact hy.wpOp hi hg ⟨fun _ => hg, H⟩
    · have := ready_mono hj hji
      rw [H.1] at this
      cases this
  | succ f ih =>
    intro listed a w hg hfree hr hy H
    refine ⟨fun h => (by rw [h] at hr; cases hr), fun j hj => ?_⟩
    by_cases hji : j = i
    · subst hji; exact hy.wpOp hi hg ⟨fun _ => hg, H⟩
    · have h1 := H.2 j (ready_mono hj hji)
      obtain ⟨hjun, oj, hoj, hall⟩ := mem_ready.1 hj
      have hnot : ∀ e ∈ oj.after, Region.binds md e = true → e.on ≠ i := fun e he hb heq => by
        have h1 := hall e he hb
        have h0 := (mem_ready.1 hr).1
        rw [heq] at h1
        rcases Nat.lt_or_ge i listed.size with h' | h'
        · simp [h'] at h0 h1; rw [h0] at h1; cases h1
        · simp [Array.getElem?_eq_none h'] at h1
      have h2 := wpOp_putG (Q := Q) hoj (hfree j oj hoj hji hjun hnot) (fun cs b => hsel i oi cs b hi) (fun cs b => hsel j oj cs b hoj) hQ hy h1
      have hfree' : ∀ k ok, ops[k]? = some ok → k ≠ i → (listed.setIfInBounds j true).getD k true = false →
          (∀ e ∈ ok.after, Region.binds md e = true → e.on ≠ i) → oi.apart ops ok = true := fun k ok hk hki hun hno => by
        refine hfree k ok hk hki ?_ hno
        by_cases hjk : j = k
        · subst hjk; exact hjun
        · rw [getD_set_ne true hjk] at hun; exact hun
      have hnl : lastB md ops j = false := by
        cases hl : lastB md ops j with
        | false => rfl
        | true =>
          obtain ⟨e, he, hb, hon⟩ := lastB_spec hl hoj (Array.getElem?_eq_some_iff.1 hi).1 (Ne.symm hji)
          exact absurd hon (hnot e he hb)
      refine wpOp_mono (fun a' w' h3 => ?_) h2
      have hg' : G w' := h3.2.1 hnl
      refine ⟨fun _ => hg', ih (listed.setIfInBounds j true) a' w' hg' hfree' (ready_mono hr (Ne.symm hji)) h3.1 ?_⟩
      rw [Array.setIfInBounds_comm _ _ hji]
      exact h3.2.2

/-- What only reads is taken first, in the order given. -/
def takesB (md : Region.Mode) (ops : Array Oper) : List Nat → Array Bool → Bool
  | [], _ => true
  | i :: is, listed => (Region.ready md ops listed).contains i && Region.free md ops listed i && (match ops[i]? with | some o => plainB o | none => false) && takesB md ops is (listed.setIfInBounds i true)

theorem wpAnyG_takes (hsel : Region.noSelect ops = true) {w : World} (hg : G w) (hQ : ∀ (d : Option Tmp) (v : Value) c a w, Q (.panic c) (a.put d v) w → Q (.panic c) a w) (f : Nat) :
    ∀ (is : List Nat) (l : List Oper) (listed : Array Bool) (a : Act), is.map (fun i => ops[i]?) = l.map some → takesB md ops is listed = true →
      wpQuiet P ops G (fun a' => wpAnyG P md ops G Q f (is.foldl (fun s i => s.setIfInBounds i true) listed) a' w) l a → wpAnyG P md ops G Q (f + is.length) listed a w := by

  intro is
  induction is with
  | nil =>
    intro l listed a hl _ h
    cases l with
    | nil => exact h
    | cons o l => simp at hl
  | cons i is ih =>
    intro l listed a hl hB h
    cases l with
    | nil => simp at hl
    | cons o l =>
      simp only [List.map_cons, List.cons.injEq] at hl
      obtain ⟨hi, hl⟩ := hl
      simp only [takesB, hi, Bool.and_eq_true] at hB
      obtain ⟨⟨⟨hr, hf⟩, hp⟩, hB⟩ := hB
      have hq : qOp P ops G i (wpQuiet P ops G (fun a' => wpAnyG P md ops G Q f ((i :: is).foldl (fun s i => s.setIfInBounds i true) listed) a' w) l) a := by
        unfold qOp; simp only [hi]; exact h
      obtain ⟨v, hy, hK⟩ := yieldsIn_of_qOp hi hq
      rw [List.length_cons, show f + (is.length + 1) = (f + is.length) + 1 by omega]
      exact wpAnyG_first hi (Region.noSelect_spec hsel) (hQ _ _) _ _ _ _ hg (Region.free_spec hi hf) (by simpa using hr) (yieldsG_of_in hp hy) (ih l _ _ hl hB hK)

def picks (l : List Oper) : List Nat → List Oper
  | [] => []
  | i :: is => (l.drop i).take 1 ++ picks l is
theorem take_drop_one (l : List Oper) (i : Nat) (o : Oper) (h : l[i]? = some o) : (l.drop i).take 1 = [o] := by
  obtain ⟨hi, rfl⟩ := List.getElem?_eq_some_iff.1 h
  rw [List.drop_eq_getElem_cons hi]; rfl

theorem wpAnyG_take (is : List Nat) (hsel : Region.noSelect ops = true) {listed : Array Bool} {a : Act} {w : World} (hg : G w) (hQ : ∀ (d : Option Tmp) (v : Value) c a w, Q (.panic c) (a.put d v) w → Q (.panic c) a w) (f : Nat)
    (hB : takesB md ops is listed = true) (h : wpQuiet P ops G (fun a' => wpAnyG P md ops G Q f (is.foldl (fun s i => s.setIfInBounds i true) listed) a' w) (picks ops.toList is) a) :
    wpAnyG P md ops G Q (f + is.length) listed a w := by
  refine wpAnyG_takes hsel hg hQ f is _ _ _ ?_ hB h
  clear h
  induction is generalizing listed with
  | nil => rfl
  | cons i is ih =>
    simp only [takesB, Bool.and_eq_true] at hB
    cases hi : ops[i]? with
    | none => rw [hi] at hB; simp at hB
    | some o =>
      have h1 : ops.toList[i]? = some o := by rw [Array.getElem?_toList]; exact hi
      simp only [List.map_cons, picks, take_drop_one _ _ _ h1, hi, List.cons_append, List.nil_append, List.cons.injEq, true_and]; exact ih hB.2

theorem wp_exits {o : Oper} {a : Act} {w : World} {K : Act → World → Prop} {Q Q' : Exit → Act → World → Prop} (hp : ∀ c a w, Q' (.panic c) a w → Q (.panic c) a w) (ho : LetsOut Q' → LetsOut Q)
    (h : o.wp P a w K Q' ∨ (o.asks P a w ∧ LetsOut Q')) : o.wp P a w K Q ∨ (o.asks P a w ∧ LetsOut Q) := by
  rcases h with h | ⟨h, hl⟩
  · refine .inl ?_
    unfold Oper.wp at *
    generalize (execOp a.eval o).run P w = r at *
    cases r with
    | ok n w' =>
      cases n <;> simp only [Oper.upon] at h ⊢ <;> first | exact h | skip
      case enter f args =>
        refine Calls.mono h fun e w'' he => ?_
        cases e with
        | returned u => exact he
        | panicked c => exact hp _ _ _ he
        | outgrown => exact ho he
    | halt x w' =>
      cases x <;> simp only [Oper.upon] at h ⊢
      case panic u => exact hp _ _ _ h
  · exact .inr ⟨h, ho hl⟩

theorem wpList_exits {o : Oper} {a : Act} {w : World} {Q Q' : Exit → Act → World → Prop} (hn : ∀ a w, Q' .normal a w → Q .normal a w) (hp : ∀ c a w, Q' (.panic c) a w → Q (.panic c) a w) (ho : LetsOut Q' → LetsOut Q)
    (h : wpList P ops Q' [o] a w) : wpList P ops Q [o] a w := by
  unfold wpList at *
  split
  · rename_i hw
    rw [if_pos hw] at h
    exact wp_exits hp ho (h.imp (Oper.wp_mono hn) id)
  · rename_i hw
    rw [if_neg hw] at h
    exact hn _ _ h

/-- One operation that must come next. -/
theorem wpAnyG_force {i : Nat} {o : Oper} {f : Nat} {listed : Array Bool} {a : Act} {w : World} (hr : Region.ready md ops listed = [i]) (ho : ops[i]? = some o)
    (h : wpList P ops (fun e a' w' => match e with
      | .normal => (lastB md ops i = false → G w') ∧ wpAnyG P md ops G Q f (listed.setIfInBounds i true) a' w'
      | e => Q e a' w') [o] a w) : wpAnyG P md ops G Q (f + 1) listed a w := by
  refine ⟨fun h0 => (by rw [h0] at hr; cases hr), fun j hj => ?_⟩
  rw [hr] at hj
  obtain rfl : j = i := by simpa using hj
  unfold wpList at h
  unfold wpOp
  simp only [ho]
  split
  · rename_i hw
    rw [if_pos hw] at h
    exact wp_exits (fun _ _ _ h => h) (fun h => h) h
  · rename_i hw
    rw [if_neg hw] at h
    exact h

theorem wpAnyG_done {listed : Array Bool} {a : Act} {w : World} (hr : Region.ready md ops listed = []) (h : Q .normal a w) : wpAnyG P md ops G Q 0 listed a w := ⟨hr, h⟩

/-! ### Where every operation but the last makes memory at most -/
/-- What is left of a region whose operations leave all memory of W as it is. -/
abbrev AnyG (P : Program) (ops : Array Oper) (W : World) (Q : Exit → Act → World → Prop) (f : Nat) (listed : Array Bool) (a : Act) (w : World) : Prop := wpAnyG P .any ops (fun w' => ∃ g, w' = grow W g) Q f listed a w

theorem mixed_start {id : Nat} {a : Act} {w : World} {l : List Oper} (hm : P.follows .mixedOrders = true)
    (h : AnyG P l.toArray w Q l.length (Array.replicate l.length false) a w.drew) : (Code.region id l.toArray true).wp P Q a w :=
  wp_region_any hm (wpAny_of_G _ _ _ _ (by simpa using h))
theorem mixed_take {W : World} (is : List Nat) (hsel : Region.noSelect ops = true) {listed : Array Bool} {a : Act} {w : World} (hP : Only (fun _ => False) W w) (hQ : ∀ (d : Option Tmp) (v : Value) c a w, Q (.panic c) (a.put d v) w → Q (.panic c) a w) (f : Nat)
    (hB : takesB .any ops is listed = true) (h : wpQuiet P ops (fun w' => ∃ g, w' = grow W g) (fun a' => AnyG P ops W Q f (is.foldl (fun s i => s.setIfInBounds i true) listed) a' w) (picks ops.toList is) a) :
    AnyG P ops W Q (f + is.length) listed a w := wpAnyG_take is hsel (pure_grow hP) hQ f hB h
theorem mixed_force {W : World} {i : Nat} {o : Oper} {f : Nat} {listed : Array Bool} {a : Act} {w : World} (hr : Region.ready .any ops listed = [i]) (ho : ops[i]? = some o)
    (h : wpList P ops (fun e a' w' => match e with
      | .normal => Only (fun _ => False) W w' ∧ AnyG P ops W Q f (listed.setIfInBounds i true) a' w'
      | e => Q e a' w') [o] a w) : AnyG P ops W Q (f + 1) listed a w :=
by
  refine wpAnyG_force hr ho (wpList_exits ?_ ?_ ?_ h)
  · exact fun a' w' h => ⟨fun _ => pure_grow h.1, h.2⟩
  · exact fun _ _ _ h => h
  · exact fun h => h
theorem mixed_last {W : World} {i : Nat} {o : Oper} {listed : Array Bool} {a : Act} {w : World} (hr : Region.ready .any ops listed = [i]) (ho : ops[i]? = some o) (hl : lastB .any ops i = true) (he : Region.ready .any ops (listed.setIfInBounds i true) = [])
    (h : wpList P ops Q [o] a w) : AnyG P ops W Q 1 listed a w :=
by
  refine wpAnyG_force hr ho (wpList_exits ?_ ?_ ?_ h)
  · exact fun a' w' h => ⟨fun h0 => (by rw [hl] at h0; cases h0), he, h⟩
  · exact fun _ _ _ h => h
  · exact fun h => h
end
end Go.Proofs.Ythnjfekkngpbjaa

/- A region that draws its order, with operations that write: what only reads is taken first, in whatever class of worlds; the rest comes in a forced order. -/
namespace Go.Proofs.Ythnjfekkngpbjaa
open Go.RowKit
section
variable {P : Program} {ops : Array Oper} {Q : Exit → Act → World → Prop}
/-- A world of a class. -/
structure InG (G : World → Prop) where
  world : World
  holds : G world
/-- What is left of a region whose operations leave a world of G. -/
abbrev AnyC (P : Program) (ops : Array Oper) (G : World → Prop) (Q : Exit → Act → World → Prop) (f : Nat) (listed : Array Bool) (a : Act) (w : World) : Prop := wpAnyG P .any ops (fun w' => ∃ g : InG G, w' = g.world) Q f listed a w

theorem any_start (G : World → Prop) {id : Nat} {a : Act} {w : World} {l : List Oper} (hm : P.follows .mixedOrders = true)
    (h : AnyC P l.toArray G Q l.length (Array.replicate l.length false) a w.drew) : (Code.region id l.toArray true).wp P Q a w :=
  wp_region_any hm (wpAny_of_G _ _ _ _ (by simpa using h))
theorem any_take {G : World → Prop} (is : List Nat) (hsel : Region.noSelect ops = true) {listed : Array Bool} {a : Act} {w : World} (hg : G w) (hQ : ∀ (d : Option Tmp) (v : Value) c a w, Q (.panic c) (a.put d v) w → Q (.panic c) a w) (f : Nat)
    (hB : takesB .any ops is listed = true) (h : wpQuiet P ops (fun w' => ∃ g : InG G, w' = g.world) (fun a' => AnyC P ops G Q f (is.foldl (fun s i => s.setIfInBounds i true) listed) a' w) (picks ops.toList is) a) :
    AnyC P ops G Q (f + is.length) listed a w := wpAnyG_take is hsel ⟨⟨w, hg⟩, rfl⟩ hQ f hB h
theorem any_force {G : World → Prop} {i : Nat} {o : Oper} {f : Nat} {listed : Array Bool} {a : Act} {w : World} (hr : Region.ready .any ops listed = [i]) (ho : ops[i]? = some o)
    (h : wpList P ops (fun e a' w' => match e with
      | .normal => G w' ∧ AnyC P ops G Q f (listed.setIfInBounds i true) a' w'
      | e => Q e a' w') [o] a w) : AnyC P ops G Q (f + 1) listed a w :=
by
  refine wpAnyG_force hr ho (wpList_exits ?_ ?_ ?_ h)
  · exact fun a' w' h => ⟨fun _ => ⟨⟨w', h.1⟩, rfl⟩, h.2⟩
  · exact fun _ _ _ h => h
  · exact fun h => h
theorem any_done {G : World → Prop} {listed : Array Bool} {a : Act} {w : World} (hr : Region.ready .any ops listed = []) (h : Q .normal a w) : AnyC P ops G Q 0 listed a w := ⟨hr, h⟩
end
end Go.Proofs.Ythnjfekkngpbjaa

/- Ranges over a function: what the body keeps, told by cells; the law with the frame told ahead; many marks at a function's end. -/
namespace Go.Proofs.Ythnjfekkngpbjaa
open Go.RowKit

theorem cell_isCells {w : World} {p : Addr} {v : Value} {o : Obj} (h : w.cell? p = some v) (ho : w.heap[p.block]? = some o) : o.isCells = true := by
  unfold World.cell? at h
  rw [ho] at h
  cases o <;> simp at h <;> rfl
/-- Cells in blocks of D stay as they are. -/
def KeepC (D : Nat → Prop) (W W' : World) : Prop := ∀ p v, D p.block → W.cell? p = some v → W'.cell? p = some v
theorem KeepC.trans {D : Nat → Prop} {X Y Z : World} (h : KeepC D X Y) (k : KeepC D Y Z) : KeepC D X Z := fun p v hD hc => k p v hD (h p v hD hc)
theorem KeepC.refl (D : Nat → Prop) (W : World) : KeepC D W W := fun _ _ _ h => h
theorem KeepC.obj {D : Nat → Prop} (W : World) (l : Nat) (o o' : Obj) (h : W.heap[l]? = some o) (hc : o.isCells = false) : KeepC D W (W.putObj l o') := fun p v _ hv => by
  by_cases e : p.block = l
  · have := cell_isCells hv (by rw [e]; exact h); rw [this] at hc; cases hc
  · exact (World.cell?_of_block (World.putObj_heap_other e)).trans hv
theorem KeepC.only {D S : Nat → Prop} {W W' : World} (h : Only S W W') (hd : ∀ k, D k → ¬ S k) : KeepC D W W' := fun _ _ hD hv => h.cell hv (hd _ hD)
theorem KeepC.pure {D : Nat → Prop} {W W' : World} (h : Pure W W') : KeepC D W W' := .only h (fun _ _ f => f)
theorem Ints.keepC {D D' : Nat → Prop} {w w' : World} {v : Value} {l : List Int} (h : Ints D w v l) (hk : KeepC D' w w') (hd : ∀ k, D k → D' k) : Ints D w' v l := by
  obtain ⟨a, len, cap, rfl, hl, hc, hm, hh⟩ := h
  exact ⟨a, len, cap, rfl, hl, hc, hm, fun i hi => by obtain ⟨b, o, e, d, r⟩ := hh i hi; exact ⟨b, o, e, d, hk _ _ (hd b d) r⟩⟩
theorem Ints.fresh {D : Nat → Prop} {w : World} {v : Value} {l : List Int} (h : Ints D w v l) : Ints (fun k => D k ∧ k < w.heap.size) w v l := by
  obtain ⟨a, len, cap, rfl, hl, hc, hm, hh⟩ := h
  exact ⟨a, len, cap, rfl, hl, hc, hm, fun i hi => by obtain ⟨b, o, e, d, r⟩ := hh i hi; exact ⟨b, o, e, ⟨d, World.block_lt_of_cell? w _ r⟩, r⟩⟩

/-- What the book-keeping of a range over a function may change. -/
structure Near (B : Nat) (W W' : World) : Prop where
  os : W'.os = W.os
  tape : W'.tape = W.tape
  output : W'.output = W.output
  size : W.heap.size ≤ W'.heap.size
  low : ∀ k, k < B → k < W.heap.size → W'.heap[k]? = W.heap[k]?
  cells : ∀ (k : Nat) (o : Obj), W.heap[k]? = some o → o.isCells = true → W'.heap[k]? = some o
theorem Near.cell {B : Nat} {W W' : World} (h : Near B W W') {p : Addr} {v : Value} (hv : W.cell? p = some v) : W'.cell? p = some v := by
  have hb := World.block_lt_of_cell? W p hv
  obtain ⟨o, ho⟩ : ∃ o, W.heap[p.block]? = some o := ⟨_, Array.getElem?_eq_getElem hb⟩
  exact (World.cell?_of_block ((h.cells _ _ ho (cell_isCells hv ho)).trans ho.symm)).trans hv
theorem Near.row {B : Nat} {W W' : World} (h : Near B W W') {k : Nat} {cs : Array Value} {t : TypeId} {fr : Nat × Nat} (hv : W.heap[k]? = some (.cells cs t fr)) : W'.heap[k]? = some (.cells cs t fr) := h.cells _ _ hv rfl
theorem Near.only {B : Nat} {S : Nat → Prop} {w W W' : World} (h : Near B W W') (ho : Only S w W) (hB : w.heap.size ≤ B) : Only S w W' :=
  ⟨h.os.trans ho.os, h.tape.trans ho.tape, h.output.trans ho.output, Nat.le_trans ho.size h.size, fun k hk hn => (h.low k (by omega) (Nat.lt_of_lt_of_le hk ho.size)).trans (ho.block k hk hn)⟩
theorem Near.map {κ : Type} [DecidableEq κ] {kv : κ → Value} {B : Nat} {W W' : World} {b : Nat} {f : κ → Option Value} (h : Near B W W') (hm : MapF kv W b f) (hb : b < B) : MapF kv W' b f := by
  obtain ⟨E, c, hm, hf⟩ := hm
  exact ⟨E, c, ⟨(h.low b hb (lt_of_block hm.heap)).trans hm.heap, hm.keys, hm.born, hm.lt⟩, hf⟩
theorem Near.ints {B : Nat} {D : Nat → Prop} {W W' : World} {v : Value} {l : List Int} (h : Near B W W') (hi : Ints D W v l) : Ints D W' v l := by
  obtain ⟨a, len, cap, rfl, hl, hc, hm, hh⟩ := hi
  exact ⟨a, len, cap, rfl, hl, hc, hm, fun i hi => by obtain ⟨b, o, e, d, r⟩ := hh i hi; exact ⟨b, o, e, d, h.cell r⟩⟩
theorem own_of {β : Type} {B : Nat} {I : β → World → Prop} (h : ∀ s W W', Near B W W' → I s W → I s W') : OwnFrom B I := fun s W W' row hs hg hr =>
  h s W W' ⟨hg.os, hg.tape, hg.output, hg.size, fun k hk hl => hg.block k hl (fun e => by have := (hr k e.symm).1; omega), fun k o ho hc => (hg.block k (lt_of_block ho) (fun e => by obtain ⟨_, o', ho', hc'⟩ := hr k e.symm; rw [ho] at ho'; cases ho'; rw [hc] at hc'; cases hc')).trans ho⟩ hs
theorem Near.alloc (B : Nat) (W : World) (o : Obj) : Near B W (W.alloc o) :=
  ⟨rfl, rfl, rfl, by simp, fun k _ hl => Below.heap_alloc _ _ _ hl, fun k o' ho _ => (Below.heap_alloc _ _ _ (lt_of_block ho)).trans ho⟩

variable {F : Fence} {n : Nat} {P : Program}
/-- The law where the loop's variables lie in no boxes: the frame of a round is a function of the frame ahead. -/
theorem wpIn_rangeFunc_act {α : Type} (f : α → Act → Act) {g : Operand} {ps : Array Tmp} {assign body : Code} {Q : Exit → Act → World → Prop} {a : Act} {w : World}
    (hro : F.round = none) (h1 : 1 ≤ n) {gf : Nat} {lb : Array Value} (hg : a.eval g = .func (.func gf) #[] lb) (hFg : F.fn gf) (eg : ∀ args w, (callFunc gf args).run P w = .ok (.enter gf args) w)
    {encs : α → Array Value} {Kp : World → World → Prop} {S Sp : List α → Prop} {N : Nat} {w0 : World} (hseq : SeqStopsK F (n - 1) P gf lb encs Kp S Sp N w0)
    (hKt : ∀ {A B C : World}, Kp A B → Kp B C → Kp A C) (hKb : ∀ (W : World) (l : Nat) (o o' : Obj), w.heap.size ≤ l → W.heap[l]? = some o → o.isCells = false → o.isWalk = false → Kp W (W.putObj l o')) (hb0 : Below w0.heap.size w0 w) (hps : ∀ x, (encs x).size = ps.size)
    (I : List α → World → Prop) (Ix : Code → List α → World → Prop) (hI : OwnFrom w.heap.size I) (hIx : ∀ c, OwnFrom w.heap.size (Ix c)) (h0 : I [] w)
    (hassign : ∀ (l : Nat) (pre : List α) (x : α) (W : World) (K : Act → World → Prop), I pre W → (∀ W', KeepsFrom w.heap.size W W' → Kp W W' → I pre W' → K (f x a) W') →
      assign.wpIn (F.inRound l) (n - 1 - 1) P (Exit.then K (fun _ _ _ => False)) { tmps := (ps.zip (encs x)).foldl (fun t (p, v) => t.setIfInBounds p v) a.tmps, defers := [] } W)
    (hbody : ∀ (l : Nat) (pre : List α) (x : α) (W : World), w.heap.size ≤ l → (∃ r, W.heap[l]? = some (.loop r)) → I pre W → pre.length < N → body.wpIn (F.inRound l) (n - 1 - 1) P (ownPostG w.heap.size Kp I Ix (pre ++ [x]) W) (f x a) W)
    (hdone : ∀ (D : Nat) (xs : List α) (W : World), w.heap.size ≤ D → S xs → I xs W → W.heap[D]? = some (.deferred (some [])) → Q .normal { a with defers := { target := .collected D, args := #[] } :: a.defers } W)
    (hstop : ∀ (D : Nat) (c : Code) (pre : List α) (W : World), w.heap.size ≤ D → Sp pre → Ix c pre W → W.heap[D]? = some (.deferred (some [])) → c.wpIn F n P Q { a with defers := { target := .collected D, args := #[] } :: a.defers } W) :
    (Code.rangeFunc g ps assign body).wpIn F n P Q a w :=
  wpIn_rangeFunc_ownH hro h1 hg hFg eg hseq hKt hKb hb0 hps I Ix hI hIx h0 (fun x a' _ => a' = f x a) (fun _ _ _ _ _ _ h _ _ => h)
    (fun l pre x W K hi hK => hassign l pre x W K hi (fun W' h1 h2 h3 => hK _ W' h1 h2 h3 rfl))
    (fun l pre x a' W hl hr hi ha hlen => by subst ha; exact hbody l pre x W hl hr hi hlen) hdone hstop

/-- The marks that ranges over functions have left in a frame. -/
def marks (Ds : List Nat) : List Deferred := Ds.map fun D => { target := .collected D, args := #[] }
structure Marked (B : Nat) (Ds : List Nat) (W : World) : Prop where
  nodup : Ds.Nodup
  at_ : ∀ D, D ∈ Ds → B ≤ D ∧ W.heap[D]? = some (.deferred (some []))
theorem Marked.nil (B : Nat) (W : World) : Marked B [] W := ⟨List.nodup_nil, fun _ h => by cases h⟩
theorem Marked.keep {B B' : Nat} {Ds : List Nat} {W W' : World} (h : Marked B Ds W) (hk : KeepsFrom B' W W') (hB : B' ≤ B) : Marked B Ds W' :=
  ⟨h.nodup, fun D hD => ⟨(h.at_ D hD).1, hk.same D _ (Nat.le_trans hB (h.at_ D hD).1) (h.at_ D hD).2 rfl⟩⟩
theorem Marked.only {B : Nat} {S : Nat → Prop} {Ds : List Nat} {W W' : World} (h : Marked B Ds W) (hk : Only S W W') (hS : ∀ D, D ∈ Ds → ¬ S D) : Marked B Ds W' :=
  ⟨h.nodup, fun D hD => ⟨(h.at_ D hD).1, hk.heap (h.at_ D hD).2 (hS D hD)⟩⟩
theorem Marked.cons {B : Nat} {Ds : List Nat} {W : World} {D : Nat} (h : Marked B Ds W) (hB : B ≤ D) (hD : W.heap[D]? = some (.deferred (some []))) (hn : D ∉ Ds) : Marked B (D :: Ds) W :=
  ⟨List.nodup_cons.2 ⟨hn, h.nodup⟩, fun E hE => by rcases List.mem_cons.1 hE with rfl | hE; exact ⟨hB, hD⟩; exact h.at_ E hE⟩
theorem Marked.lt {B : Nat} {Ds : List Nat} {W : World} (h : Marked B Ds W) : ∀ D, D ∈ Ds → D < W.heap.size := fun D hD => lt_of_block (h.at_ D hD).2
/-- A function's end behind many ranges over functions. -/
theorem leaves_marks {F : Fence} {n : Nat} {P : Program} {fn : Func} {tmps : Array Value} {R : Ending → World → Prop} {B : Nat} : ∀ (Ds : List Nat) (W : World), Marked B Ds W →
    (∀ W', Only (fun k => k ∈ Ds) W W' → LeavesInM F n P fn tmps R [] .returning W') → LeavesInM F n P fn tmps R (marks Ds) .returning W
  | [], W, _, h => h W (Only.refl _ _)
  | D :: Ds, W, hm, h => by
    have hD := (hm.at_ D (by simp)).2
    have hO : Only (fun k => k = D) W (W.putObj D (.deferred none)) := ⟨rfl, rfl, rfl, by simp [World.putObj], fun k _ hn => World.putObj_heap_other hn⟩
    refine ⟨by simp, .inl ⟨D, _, rfl, run_takeDeferred hD, leaves_marks (B := B) Ds _ ⟨(List.nodup_cons.1 hm.nodup).2, fun E hE => ⟨(hm.at_ E (by simp [hE])).1, ?_⟩⟩ ?_⟩⟩
    · exact hO.heap (hm.at_ E (by simp [hE])).2 (fun e => (List.nodup_cons.1 hm.nodup).1 (by subst e; exact hE))
    · intro W' hW
      refine h W' ((hO.mono ?_).trans (hW.mono ?_))
      · intro k _ e; subst e; simp
      · intro k _ e; simp [e]

/-- A function's end, by a return alone. -/
def retPost (F : Fence) (n : Nat) (P : Program) (fn : Func) (R : Ending → World → Prop) : Exit → Act → World → Prop
  | .normal, a, w => LeavesInM F n P fn a.tmps R a.defers .returning w
  | .ret, a, w => LeavesInM F n P fn a.tmps R a.defers .returning w
  | _, _, _ => False
theorem callsIn_of_ret {F : Fence} {n : Nat} {P : Program} {f : FuncId} {fn : Func} {c : Code} {args : Array Value} {w : World} {R : Ending → World → Prop}
    (hf : P.funcs[f]? = some fn) (hb : fn.body = some c) (hF : F.fn f)
    (h : c.wpIn F n P (retPost F n P fn R) { tmps := args ++ Array.replicate (fn.ntmps - args.size) undef, defers := [] } w) (hro : F.round = none := by rfl) : CallsIn F n P f args w R :=
  callsIn_of_wp_marks hf hb hF (wpIn_mono h (fun e a w h => by cases e <;> first | exact h | exact h.elim)) hro
theorem retPost_ret {F : Fence} {n : Nat} {P : Program} {fn : Func} {R : Ending → World → Prop} {a : Act} {w : World} (h : LeavesInM F n P fn a.tmps R a.defers .returning w) : retPost F n P fn R .ret a w := h
theorem retPost_normal {F : Fence} {n : Nat} {P : Program} {fn : Func} {R : Ending → World → Prop} {a : Act} {w : World} (h : LeavesInM F n P fn a.tmps R a.defers .returning w) : retPost F n P fn R .normal a w := h
theorem leaves_nil {F : Fence} {n : Nat} {P : Program} {fn : Func} {tmps : Array Value} {R : Ending → World → Prop} {w : World} (v : Value) (h : (results fn tmps).run P w = .ok v w) (hR : R (.returned v) w) : LeavesInM F n P fn tmps R [] .returning w := ⟨v, h, hR⟩
end Go.Proofs.Ythnjfekkngpbjaa

/- A region that draws its order, in the body of a range over a function: one walk of the text's order, callees making memory of their own. -/
namespace Go.Proofs.Ythnjfekkngpbjaa
open Go.RowKit

def noDefer (ops : Array Oper) : Bool := ops.all fun o => match o.op with | .defer _ => false | _ => true
theorem noDefer_spec {ops : Array Oper} (h : noDefer ops = true) {i : Nat} {o : Oper} (ho : ops[i]? = some o) : ∀ c, o.op ≠ .defer c := fun c hc => by
  unfold noDefer at h
  rw [Array.all_eq_true] at h
  obtain ⟨hi, rfl⟩ := Array.getElem?_eq_some_iff.1 ho
  have := h i hi
  rw [hc] at this
  cases this

theorem operIn_of_wp {P : Program} {r n : Nat} {o : Oper} {a : Act} {w : World} {next : Act → World → Prop} {Q : Exit → Act → World → Prop} (hd : ∀ c, o.op ≠ .defer c) (h : o.wp P a w next Q) : o.wpIn (Fence.wide.inRound r) n P a w next Q := by
  refine ⟨fun _ _ => trivial, ?_⟩
  rw [show (Fence.wide.inRound r).round = some r from rfl, Oper.semAt_some r _ _ hd]
  unfold Oper.wp at h
  generalize (execOp a.eval o).run P w = res at h
  cases res with
  | ok nx w' =>
    cases nx with
    | value v => exact h
    | skip => exact h
    | defer d => exact h
    | enter f args =>
      rw [Oper.upon_enter] at h
      rw [Oper.uponIn_enter]
      exact ⟨fun h => by simp [Fence.wide] at h, CallsIn.inRound r (callsIn_wide.2 h)⟩
    | row row args =>
      rw [show o.upon P a next Q (.ok (.row row args) w') = Rows P row args w' fun v w'' => next (a.put o.dst v) w'' from rfl] at h
      rw [Oper.uponIn_row]
      exact ⟨fun h => by simp [Fence.wide] at h, fun c cs _ => let ⟨v, w'', q, s⟩ := h c cs; ⟨v, w'', q, stepsIn_wide.2 s⟩⟩
    | _ => exact h.elim
  | halt ha w' =>
    cases ha with
    | panic v => exact h
    | _ => exact h.elim

theorem opIn_of_qOp {P : Program} {r n i : Nat} {ops : Array Oper} {C : World → Prop} {a : Act} {K : Act → Prop} {K' : Act → World → Prop} {Q' : Exit → Act → World → Prop} {w : World} (hd : noDefer ops = true) (hC : C w) (h : ∀ a w', C w' → K a → K' a w') (hh : qOp P ops C i K a) :
    wpOpIn (Fence.wide.inRound r) n P ops Q' i K' a w := by
  unfold qOp at hh
  unfold wpOpIn
  split
  · rename_i ho; simp only [ho] at hh; exact h _ _ hC hh
  · rename_i o ho
    simp only [ho] at hh
    split
    · rename_i hw; simp only [hw, if_true] at hh; exact operIn_of_wp (noDefer_spec hd ho) (Oper.wp_of_quiet hC h hh)
    · rename_i hw; simp only [hw] at hh; exact ⟨fun _ _ => trivial, h _ _ hC hh⟩
theorem anyIn_of_quiet {P : Program} {r n : Nat} {md : Region.Mode} {ops : Array Oper} {C : World → Prop} {Q : Act → Prop} {Q' : Exit → Act → World → Prop} (hd : noDefer ops = true) (hQ : ∀ a w, C w → Q a → Q' .normal a w) : ∀ (fuel : Nat) (listed : Array Bool) (a : Act) (w : World), C w →
    wpAnyQ P md ops C Q fuel listed a → wpAnyIn (Fence.wide.inRound r) n P md ops Q' fuel listed a w
  | 0, _, _, _, hw, h => ⟨h.1, hQ _ _ hw h.2⟩
  | fuel + 1, _, _, _, hw, h => ⟨fun h0 => hQ _ _ hw (h.1 h0), fun i hi => opIn_of_qOp hd hw (fun a' w' hw' => anyIn_of_quiet hd hQ fuel _ a' w' hw') (h.2 i hi)⟩
/-- A region in a round: operations that read, callees that make memory of their own. -/
theorem round_region {P : Program} {r n id : Nat} {C : World → Prop} {Q : Exit → Act → World → Prop} {a : Act} {w : World} {l : List Oper} (hm : P.follows .mixedOrders = true) (hB : Region.lexB .any l.toArray = true) (hd : noDefer l.toArray = true) (hC : C { w with drawn := w.drawn + 1 })
    (h : wpQuiet P l.toArray C (fun a' => ∀ w', C w' → Q .normal a' w') l a) : (Code.region id l.toArray true).wpIn (Fence.wide.inRound r) n P Q a w := by
  simp only [Region.lexB, Bool.and_eq_true] at hB
  refine wpIn_region_any hm (anyIn_of_quiet (Q := fun a' => ∀ w', C w' → Q .normal a' w') hd (fun _ w' hw' h => h w' hw') _ _ _ _ hC ?_)
  have := wpAnyQ_lex (C := C) (md := .any) hB.1 l 0 (Array.replicate l.length false) a (by simp) (by simpa using hB.2) h
  simpa using this
theorem round_region_grow {P : Program} {r n id : Nat} {Q : Exit → Act → World → Prop} {a : Act} {w : World} {l : List Oper} (hm : P.follows .mixedOrders = true) (hB : Region.lexB .any l.toArray = true) (hd : noDefer l.toArray = true)
    (h : wpQuiet P l.toArray (fun w' => ∃ g, w' = grow w g) (fun a' => ∀ w', (∃ g, w' = grow w g) → Q .normal a' w') l a) : (Code.region id l.toArray true).wpIn (Fence.wide.inRound r) n P Q a w :=
  round_region (C := fun w' => ∃ g, w' = grow w g) hm hB hd ⟨⟨[], w.drawn + 1⟩, by simp [grow]⟩ h
end Go.Proofs.Ythnjfekkngpbjaa

/- What the functions of package odds compute, in plain words. -/
namespace Go.Proofs.Ythnjfekkngpbjaa
open Go.RowKit

abbrev Fr := Int × Int
def comF : Nat → Int → Int → Int
  | 0, a, _ => a
  | f + 1, a, b => if b = 0 then a else comF f b (a.tmod b)
def com (a b : Int) : Int := comF (b.natAbs + 1) a b
def frac (num den : Int) : Fr := (wrap64 (num.tdiv (com (max num (wrap64 (-num))) den)), wrap64 (den.tdiv (com (max num (wrap64 (-num))) den)))
def lessB (a b : Fr) : Bool := decide (wrap64 (a.1 * b.2) < wrap64 (b.1 * a.2))
def plusF (a b : Fr) : Fr := frac (wrap64 (wrap64 (a.1 * b.2) + wrap64 (b.1 * a.2))) (wrap64 (a.2 * b.2))
def midF (lo hi : Fr) : Fr := (wrap64 (lo.1 + hi.1), wrap64 (lo.2 + hi.2))
/-- The pairs that closer yields, from a pair on. -/
def pairsF (r : Fr) (step : Int) : Nat → Fr → Fr → List (Fr × Fr)
  | 0, lo, hi => [(lo, hi)]
  | f + 1, lo, hi => (lo, hi) :: (if step < (midF lo hi).2 then [] else if lessB r (midF lo hi) then pairsF r step f lo (midF lo hi) else pairsF r step f (midF lo hi) hi)
def wholeOf (r : Fr) : Int := wrap64 (r.1.tdiv r.2)
def pairsOf (r : Fr) (step : Int) : List (Fr × Fr) := pairsF r step 120 (wholeOf r, 1) (wrap64 (wholeOf r + 1), 1)
def nearOf (r : Fr) (step : Int) : Fr × Fr := (pairsOf r step).getLast?.getD ((0, 0), (0, 0))
def simpF : Nat → Fr → Fr → Fr
  | 0, _, _ => (0, 0)
  | f + 1, lo, hi =>
    let whole := (lo.1 + lo.2 - 1) / lo.2
    if whole * hi.2 ≤ hi.1 then (whole, 1) else
      let x := simpF f (hi.2, hi.1 - (whole - 1) * hi.2) (lo.2, lo.1 - (whole - 1) * lo.2)
      (wrap64 (wrap64 ((whole - 1) * x.1) + x.2), x.1)
def simpOf (lo hi : Fr) : Fr := simpF (lo.2 + hi.2).toNat lo hi
def isFr (r : Fr) : Bool := withinB 1 1000000 [r.2] && withinB 0 (wrap64 (1000 * r.2)) [r.1]
def askedE (r : Fr) (step : Int) : Int := if isFr r = false then 3 else if withinB 1 100 [step] = false then 2 else 0
def nearR (r : Fr) (step : Int) : Fr × Fr × Int := if askedE r step ≠ 0 then ((0, 0), (0, 0), askedE r step) else ((nearOf r step).1, (nearOf r step).2, 0)
def checkNear (r : Fr) (step : Int) (lo hi : Fr) : Int :=
  if askedE r step ≠ 0 then askedE r step else
  if (!withinB 1 step [lo.2, hi.2] || !withinB 0 (wrap64 (1001 * step)) [lo.1, hi.1]) then 14 else
  if (lessB r lo || !lessB r hi || !decide (wrap64 (wrap64 (hi.1 * lo.2) - wrap64 (lo.1 * hi.2)) = 1) || decide (wrap64 (lo.2 + hi.2) ≤ step)) then 14 else 0
def roundR (r : Fr) (step : Int) : Fr × Int := if askedE r step ≠ 0 then ((0, 0), askedE r step) else
  let lo := (nearOf r step).1; let hi := (nearOf r step).2
  if lessB (wrap64 (wrap64 (lo.1 * hi.2) + wrap64 (hi.1 * lo.2)), wrap64 (wrap64 (2 * lo.2) * hi.2)) r then (hi, 0) else (lo, 0)
def simplestR (lo hi : Fr) : Fr × Int := if (!isFr lo || !isFr hi || lessB hi lo) then ((0, 0), 3) else (simpOf lo hi, 0)
structure OPool where
  stakes : List Fr
  cut : Int
def oddRange (s : Fr) : Bool := decide (s.2 < s.1) || !withinB 0 1000000 [s.1, s.2]
def checkPool (p : OPool) : Int := if withinB 1 8 [(p.stakes.length : Int)] = false then 6 else if (p.stakes.any oddRange || !withinB 0 500 [p.cut]) then 3 else 0
def pooledE (p : OPool) (runner : Int) : Int := if checkPool p ≠ 0 then checkPool p else if runner < 0 ∨ (p.stakes.length : Int) ≤ runner then 2 else 0
def oddsF (own others cut : Int) : Fr := frac (max 0 (wrap64 (wrap64 (wrap64 (1000 - cut) * wrap64 (own + others)) - wrap64 (1000 * own)))) (wrap64 (1000 * own))
def frAt (l : List Fr) (i : Nat) : Fr := l[i]?.getD (0, 0)
def othersTo (l : List Fr) (runner : Int) (k : Nat) : Fr := (List.range k).foldl (fun o (i : Nat) => if (i : Int) = runner then o else (wrap64 (o.1 + (frAt l i).1), wrap64 (o.2 + (frAt l i).2))) (0, 0)
def spanR (p : OPool) (runner : Int) : Fr × Fr × Int := if pooledE p runner ≠ 0 then ((0, 0), (0, 0), pooledE p runner) else
  let own := frAt p.stakes runner.toNat
  if own.1 = 0 then ((0, 0), (0, 0), 20) else
  let o := othersTo p.stakes runner p.stakes.length
  (oddsF own.2 o.1 p.cut, oddsF own.1 o.2 p.cut, 0)
def shownF (r : Fr) (step : Int) : Fr := if lessB (1000, 1) r then (1000, 1) else (nearOf r step).1
def boardR (p : OPool) (runner step : Int) : Fr × Fr × Int := if pooledE p runner ≠ 0 then ((0, 0), (0, 0), pooledE p runner) else
  if withinB 1 100 [step] = false then ((0, 0), (0, 0), 2) else
  let s := spanR p runner
  if s.2.2 ≠ 0 then ((0, 0), (0, 0), s.2.2) else (shownF s.1 step, shownF s.2.1 step, 0)
structure Quote where
  runner : Int
  num : Int
  den : Int
  lay : Bool
structure Market where
  runners : Int
  quotes : List Quote
def strayQ (m : Int) (q : Quote) : Bool := decide (q.runner < 0) || decide (m ≤ q.runner)
def oddQ (q : Quote) : Bool := !withinB 0 190 [q.num] || !withinB 1 10 [q.den]
def checkMarket (m : Market) : Int := if (!withinB 1 5 [m.runners] || decide (12 < (m.quotes.length : Int))) then 6 else if m.quotes.any (strayQ m.runners) then 2 else if m.quotes.any oddQ then 3 else 0
def qAt (l : List Quote) (i : Nat) : Quote := l[i]?.getD ⟨0, 0, 0, false⟩
abbrev Side := Int × Bool
structure DeskS where
  lo : List Fr
  hi : List Fr
  by_ : Side → Option Int
def xOf (q : Quote) : Fr := frac q.den (wrap64 (q.den + q.num))
def deskStep (d : DeskS) (n : Nat) (q : Quote) : DeskS :=
  if q.lay && lessB (frAt d.lo q.runner.toNat) (xOf q) then ⟨d.lo.set q.runner.toNat (xOf q), d.hi, fun s => if s = (q.runner, q.lay) then some (n : Int) else d.by_ s⟩
  else if !q.lay && lessB (xOf q) (frAt d.hi q.runner.toNat) then ⟨d.lo, d.hi.set q.runner.toNat (xOf q), fun s => if s = (q.runner, q.lay) then some (n : Int) else d.by_ s⟩
  else d
def desk0 (m : Market) : DeskS := ⟨(List.range 5).map fun (i : Nat) => if (i : Int) < m.runners then (0, 1) else (0, 0), (List.range 5).map fun (i : Nat) => if (i : Int) < m.runners then (1, 1) else (0, 0), fun _ => none⟩
def deskTo (m : Market) (k : Nat) : DeskS := (List.range k).foldl (fun d n => deskStep d n (qAt m.quotes n)) (desk0 m)
def deskOf (m : Market) : DeskS := deskTo m m.quotes.length
def sAt (l : List Int) (i : Nat) : Int := l[i]?.getD 0
def wonOf (q : Quote) (s runner : Int) : Int :=
  let won := if q.runner = runner then wrap64 (wrap64 (wrap64 ((2520 : Int).tdiv q.den) * q.num) * s) else wrap64 (-2520 * s)
  if q.lay then wrap64 (-won) else won
def netTo (m : Market) (stakes : List Int) (runner : Int) (k : Nat) : Int := (List.range k).foldl (fun n i => wrap64 (n + wonOf (qAt m.quotes i) (sAt stakes i) runner)) 0
def netOf (m : Market) (stakes : List Int) (runner : Int) : Int := netTo m stakes runner m.quotes.length
def totalTo (l : List Fr) (k : Nat) : Fr := (List.range k).foldl (fun o i => plusF o (frAt l i)) (0, 1)
def totalOf (l : List Fr) (runners : Int) : Fr := if l = List.replicate 5 (0, 0) then (0, 1) else totalTo l runners.toNat
def crossedAt (d : DeskS) (R : Nat) : Option Nat := (List.range R).find? fun r => lessB (frAt d.hi r) (frAt d.lo r)
def sureOf (m : Market) (d : DeskS) : List Int × Bool :=
  match crossedAt d m.runners.toNat with
  | some r => ([(d.by_ (r, false)).getD 0, (d.by_ (r, true)).getD 0], true)
  | none =>
    let lay := lessB (1, 1) (totalOf d.lo m.runners)
    if !lay && !lessB (totalOf d.hi m.runners) (1, 1) then ([], false)
    else ((List.range m.runners.toNat).filterMap fun (r : Nat) => d.by_ ((r : Int), lay), true)
def othersF (own : List Fr) : Fr := totalTo own own.length
/-- One step of chances; true: it is the last one. -/
def chStep (d : DeskS) (own : List Fr) (r : Nat) : List Fr × Bool :=
  let own1 := own.set r (0, 1)
  let o := othersF own1
  let left := plusF (1, 1) (wrap64 (-o.1), o.2)
  if !lessB (frAt d.hi r) left then (own1.set r left, true) else (own1.set r (frAt d.hi r), false)
def chFrom (d : DeskS) : Nat → Nat → List Fr → List Fr
  | 0, _, own => own
  | f + 1, r, own => if r < own.length then (if (chStep d own r).2 then (chStep d own r).1 else chFrom d f (r + 1) (chStep d own r).1) else own
def ownOf (m : Market) (d : DeskS) : List Fr := chFrom d 6 0 (d.lo.take m.runners.toNat)
def allOf (own : List Fr) : Int := own.foldl (fun a x => wrap64 (wrap64 (a.tdiv (com a x.2)) * x.2)) 1
def chancesOf (m : Market) (d : DeskS) : List Int := (ownOf m d).map fun x => wrap64 (wrap64 ((allOf (ownOf m d)).tdiv x.2) * x.1)
def stakedE (m : Market) (stakes : List Int) : Int := if checkMarket m ≠ 0 then checkMarket m else if stakes.length ≠ m.quotes.length then 15 else if withinB 0 1099511627776 stakes = false then 3 else 0
def netR (m : Market) (stakes : List Int) (runner : Int) : Fr × Int := if stakedE m stakes ≠ 0 then ((0, 0), stakedE m stakes) else if runner < 0 ∨ m.runners ≤ runner then ((0, 0), 2) else (frac (netOf m stakes runner) 2520, 0)
def checkStakes (m : Market) (stakes : List Int) : Int := if stakedE m stakes ≠ 0 then stakedE m stakes else if (List.range m.runners.toNat).all (fun (r : Nat) => decide (0 < netOf m stakes r)) then 0 else 14
def allQ (m : Market) (l : List Int) : Int := l.foldl (fun a n => wrap64 (wrap64 (a.tdiv (com a (wrap64 ((qAt m.quotes n.toNat).den + (qAt m.quotes n.toNat).num)))) * wrap64 ((qAt m.quotes n.toNat).den + (qAt m.quotes n.toNat).num))) 1
def putStakes (m : Market) (all : Int) (l : List Int) (out : List Int) : List Int := l.foldl (fun o n => o.set n.toNat (wrap64 (wrap64 (all.tdiv (wrap64 ((qAt m.quotes n.toNat).den + (qAt m.quotes n.toNat).num))) * (qAt m.quotes n.toNat).den))) out
def stakesR (m : Market) : List Int × Int := if checkMarket m ≠ 0 then ([], checkMarket m) else
  let s := sureOf m (deskOf m)
  if s.2 = false then ([], 5) else (putStakes m (allQ m s.1) s.1 (List.replicate m.quotes.length 0), 0)
def sumW (l : List Int) : Int := l.foldl (fun a x => wrap64 (a + x)) 0
def overOf (m : Market) (ch : List Int) (q : Quote) : Int := wrap64 (wrap64 (sAt ch q.runner.toNat * wrap64 (q.den + q.num)) - wrap64 (sumW ch * q.den))
def unfair (m : Market) (ch : List Int) (q : Quote) : Bool := (decide (0 < overOf m ch q) && !q.lay) || (decide (overOf m ch q < 0) && q.lay)
def checkChances (m : Market) (ch : List Int) : Int := if checkMarket m ≠ 0 then checkMarket m else if (ch.length : Int) ≠ m.runners then 15 else
  if (!withinB 0 1099511627776 ch || !withinB 1 1099511627776 [sumW ch]) then 3 else if m.quotes.any (unfair m ch) then 20 else 0
def chancesR (m : Market) : List Int × Int := if checkMarket m ≠ 0 then ([], checkMarket m) else if (sureOf m (deskOf m)).2 then ([], 20) else (chancesOf m (deskOf m), 0)

def pP : OPool := ⟨[(50, 60), (30, 30), (10, 10)], 100⟩
def mM : Market := ⟨2, [⟨0, 3, 2, false⟩, ⟨1, 1, 1, false⟩]⟩
def mF : Market := ⟨2, [⟨0, 1, 1, false⟩, ⟨0, 3, 2, true⟩, ⟨1, 1, 1, false⟩]⟩
theorem z1 : nearR (31, 50) 5 = ((3, 5), (2, 3), 0) := by decide +kernel
theorem z2 : checkNear (31, 50) 5 (1, 2) (2, 3) = 14 := by decide +kernel
theorem z3 : roundR (3, 4) 2 = ((1, 2), 0) := by decide +kernel
theorem z4 : simplestR (31, 50) (33, 50) = ((5, 8), 0) := by decide +kernel
theorem z5 : spanR pP 0 = ((1, 2), (31, 50), 0) := by decide +kernel
theorem z6 : boardR pP 0 5 = ((1, 2), (3, 5), 0) := by decide +kernel
theorem z7 : netR mF [2, 2, 2] 0 = ((-3, 1), 0) := by decide +kernel
theorem z8 : checkStakes mM [5, 5] = 14 := by decide +kernel
theorem z9 : stakesR mM = ([4, 5], 0) := by decide +kernel
theorem z10 : stakesR mF = ([], 5) := by decide +kernel
theorem z11 : chancesR mM = ([], 20) := by decide +kernel
theorem z12 : (chancesR mF).2 = 0 := by decide +kernel
theorem z13 : checkChances mF [2, 3] = 20 := by decide +kernel
end Go.Proofs.Ythnjfekkngpbjaa

/- common, fraction, less, plus. -/
namespace Go.Proofs.Ythnjfekkngpbjaa
open Go.RowKit Go.Shelf

theorem comF_zero (f : Nat) (a : Int) : comF f a 0 = a := by cases f <;> simp [comF]
theorem comF_step {f : Nat} {a b : Int} (h : b ≠ 0) : comF (f + 1) a b = comF f b (a.tmod b) := by
  conv => lhs; unfold comF
  rw [if_neg h]
theorem tmod_lt (a : Int) {b : Int} (h : b ≠ 0) : (a.tmod b).natAbs < b.natAbs := by
  rw [Int.natAbs_tmod]; exact Nat.mod_lt _ (by omega)
theorem comF_dvd : ∀ (f : Nat) (a b : Int), b.natAbs < f → comF f a b ∣ a ∧ comF f a b ∣ b ∧ ((a ≠ 0 ∨ b ≠ 0) → comF f a b ≠ 0)
  | 0, a, b, h => by omega
  | f + 1, a, b, h => by
    by_cases hb : b = 0
    · subst hb; rw [comF_zero]
      exact ⟨Int.dvd_refl a, Int.dvd_zero a, fun h => by rcases h with h | h; exact h; exact absurd rfl h⟩
    · rw [comF_step hb]
      have hl := tmod_lt a hb
      obtain ⟨h1, h2, h3⟩ := comF_dvd f b (a.tmod b) (by omega)
      refine ⟨?_, h1, fun _ => h3 (.inl hb)⟩
      have := Int.mul_tdiv_add_tmod a b
      have h4 := Int.dvd_add (Int.dvd_trans h1 (Int.dvd_mul_right b (a.tdiv b))) h2
      rwa [this] at h4
theorem com_dvd (a b : Int) : com a b ∣ a ∧ com a b ∣ b := by
  have h := comF_dvd (b.natAbs + 1) a b (by omega); exact ⟨h.1, h.2.1⟩
theorem com_ne {a b : Int} (h : b ≠ 0) : com a b ≠ 0 := (comF_dvd (b.natAbs + 1) a b (by omega)).2.2 (.inr h)
theorem tdiv_den {n d : Int} (h : n ∣ d) (hd : d ≠ 0) : d.tdiv n ≠ 0 ∧ (d.tdiv n).natAbs ≤ d.natAbs := by
  obtain ⟨k, rfl⟩ := h
  have hn : n ≠ 0 := fun e => hd (by rw [e]; simp)
  have hk : k ≠ 0 := fun e => hd (by rw [e]; simp)
  rw [Int.mul_tdiv_cancel_left _ hn]
  refine ⟨hk, ?_⟩
  rw [Int.natAbs_mul]
  exact Nat.le_mul_of_pos_left _ (by omega)
/-- A denominator: not 0, and within a bound. -/
def Den (B : Nat) (d : Int) : Prop := d ≠ 0 ∧ d.natAbs ≤ B
theorem Den.mono {B B' : Nat} {d : Int} (h : Den B d) (hb : B ≤ B') : Den B' d := ⟨h.1, Nat.le_trans h.2 hb⟩
theorem Den.mul {A B : Nat} {a b : Int} (h : Den A a) (k : Den B b) (hb : A * B ≤ 4611686018427387904) : Den (A * B) (wrap64 (a * b)) := by
  have h1 : (a * b).natAbs ≤ A * B := by rw [Int.natAbs_mul]; exact Nat.mul_le_mul h.2 k.2
  have h2 : a * b ≠ 0 := Int.mul_ne_zero h.1 k.1
  have h3 : wrap64 (a * b) = a * b := by unfold wrap64; omega
  rw [h3]; exact ⟨h2, h1⟩
theorem frac_den {B : Nat} (num : Int) {den : Int} (h : Den B den) (hb : B ≤ 4611686018427387904) : Den B (frac num den).2 := by
  have h1 := tdiv_den (com_dvd (max num (wrap64 (-num))) den).2 h.1
  have h2 := h.2
  show Den B (wrap64 _)
  generalize den.tdiv (com (max num (wrap64 (-num))) den) = q at h1
  obtain ⟨h4, h5⟩ := h1
  have h3 : wrap64 q = q := by unfold wrap64; omega
  rw [h3]; exact ⟨h4, by omega⟩
theorem plus_den {A B : Nat} {a b : Fr} (h : Den A a.2) (k : Den B b.2) (hb : A * B ≤ 4611686018427387904) : Den (A * B) (plusF a b).2 := frac_den _ (h.mul k hb) hb

set_option maxHeartbeats 1000000 in
set_option maxRecDepth 100000 in
theorem com_any (a b : Int) (w : World) : Calls Try.prog 64 #[.int .i64 a, .int .i64 b] w fun e w' => e = .returned (.int .i64 (com a b)) ∧ Pure w w' := by
  obtain ⟨R, hR⟩ : ∃ R, com a b = R := ⟨_, rfl⟩
  rw [hR]
  have HR := Lib.hid hR
  clear hR
  go_enter Try.func64, Try.ntmps64
  go_wp2_with fail
  go_loopw [0, 1] (fun x y wr => ∃ (p q : Int) (f : Nat), x = .int .i64 p ∧ y = .int .i64 q ∧ q.natAbs < f ∧ Hid (comF f p q = R) ∧ Hid (Pure w wr)) (fun _ y _ => (intOf y).natAbs)
  case atStart => exact ⟨a, b, b.natAbs + 1, rfl, rfl, by omega, HR, Lib.hid (Only.refl _ _)⟩
  case round =>
    obtain ⟨p, q, f, rfl, rfl, hf, hc, hP⟩ := hrel
    by_cases hq : q = 0
    · subst hq
      have HC := Lib.hid (show p = R from by rw [← hc.out, comF_zero])
      clear hc
      go_wp2
      go_ret
      exact ⟨by rw [← HC.out]; rfl, hP.out⟩
    · have hqb : (q == 0) = false := by simpa using hq
      have hl := tmod_lt p hq
      obtain ⟨m, hm⟩ : ∃ m, p.tmod q = m := ⟨_, rfl⟩
      rw [hm] at hl
      obtain ⟨f, rfl⟩ : ∃ f', f = f' + 1 := ⟨f - 1, by omega⟩
      have HC := Lib.hid (show comF f q m = R from by rw [← hm, ← comF_step hq]; exact hc.out)
      have HMM := Lib.hid hm
      clear hc hm
      go_wp2_with fail
      go_quiet (fail)
      rw [HMM.out]
      go_wp2
      go_roundw
      case rel => exact ⟨q, m, f, rfl, rfl, by omega, HC, Lib.hid (hP.out.drewN _)⟩
      case measure => simp [intOf]; omega

theorem less_any (a b : Fr) (w : World) : Calls Try.prog 48 #[.agg #[.int .i64 a.1, .int .i64 a.2], .agg #[.int .i64 b.1, .int .i64 b.2]] w fun e w' => e = .returned (.bool (lessB a b)) ∧ Pure w w' := by
  go_enter Try.func48, Try.ntmps48
  go_wp2
  go_ret
  exact ⟨rfl, ((Only.refl _ w).alloc _).alloc _⟩

/-- A result's cell, written. -/
theorem cell23 {w : World} {B : Nat} {x y : Int} (h : w.heap[B]? = some (.cells #[.int .i64 x, .int .i64 y] 23)) (u v : Int) :
    ((w.setCell ⟨B, 0, none⟩ (.int .i64 u)).setCell ⟨B, 1, none⟩ (.int .i64 v)).heap[B]? = some (.cells #[.int .i64 u, .int .i64 v] 23) ∧
    ((w.setCell ⟨B, 0, none⟩ (.int .i64 u)).setCell ⟨B, 1, none⟩ (.int .i64 v)).cell? ⟨B, 0, none⟩ = some (.int .i64 u) ∧ ((w.setCell ⟨B, 0, none⟩ (.int .i64 u)).setCell ⟨B, 1, none⟩ (.int .i64 v)).cell? ⟨B, 1, none⟩ = some (.int .i64 v) ∧
    Only (fun k => k = B) w ((w.setCell ⟨B, 0, none⟩ (.int .i64 u)).setCell ⟨B, 1, none⟩ (.int .i64 v)) := by
  have s1 := heap_setCell_same _ _ 0 _ _ (.int .i64 u) h
  have s2 := heap_setCell_same _ _ 1 _ _ (.int .i64 v) s1
  have e0 := cell_of_row _ _ 0 _ _ _ s2
  have e1 := cell_of_row _ _ 1 _ _ _ s2
  exact ⟨s2, e0, e1, ((Only.refl (fun k => k = B) w).setCell (p := ⟨B, 0, none⟩) (.inl rfl) _).setCell (p := ⟨B, 1, none⟩) (.inl rfl) _⟩
theorem read23 {w : World} {B : Nat} {x y : Int} (h : w.heap[B]? = some (.cells #[.int .i64 x, .int .i64 y] 23)) :
    w.cell? ⟨B, 0, none⟩ = some (.int .i64 x) ∧ w.cell? ⟨B, 1, none⟩ = some (.int .i64 y) ∧ ∀ j, w.frozen? ⟨B, j, none⟩ = false := ⟨cell_of_row _ _ 0 _ _ _ h, cell_of_row _ _ 1 _ _ _ h, fun j => arr_frozen h j⟩

set_option maxHeartbeats 1000000 in
set_option maxRecDepth 100000 in
theorem frac_any (num den : Int) (w : World) (hd : den ≠ 0) : Calls Try.prog 60 #[.int .i64 num, .int .i64 den] w fun e w' => e = .returned (.agg #[.int .i64 (frac num den).1, .int .i64 (frac num den).2]) ∧ Pure w w' := by
  have hk := World.alloc_heap_new w (.cells #[.int .i64 0, .int .i64 0] 23)
  have hP := (Only.refl (fun _ => False) w).alloc (.cells #[.int .i64 0, .int .i64 0] 23)
  have hc := fun W => com_any (max num (wrap64 (-num))) den W
  have hn := com_ne (a := max num (wrap64 (-num))) hd
  obtain ⟨R, hR⟩ : ∃ R, frac num den = R := ⟨_, rfl⟩
  rw [hR]
  have hdef : R = (wrap64 (num.tdiv (com (max num (wrap64 (-num))) den)), wrap64 (den.tdiv (com (max num (wrap64 (-num))) den))) := hR.symm
  obtain ⟨n, hn2⟩ : ∃ n, com (max num (wrap64 (-num))) den = n := ⟨_, rfl⟩
  simp only [hn2] at hc
  rw [hn2] at hn hdef
  have HD := Lib.hid hdef; have HK := Lib.hid hk; have HP := Lib.hid hP; have HC := Lib.hid hc
  have hnb : (n == 0) = false := by simpa using hn
  clear hk hP hc hR hdef hn2
  have hcase : (num < wrap64 (-num) ∧ ∀ W, Calls Try.prog 64 #[.int .i64 (wrap64 (-num)), .int .i64 den] W fun e w' => e = .returned (.int .i64 n) ∧ Pure W w') ∨ (¬ num < wrap64 (-num) ∧ ∀ W, Calls Try.prog 64 #[.int .i64 num, .int .i64 den] W fun e w' => e = .returned (.int .i64 n) ∧ Pure W w') := by
    rcases Int.lt_or_le num (wrap64 (-num)) with h | h
    · exact .inl ⟨h, fun W => by have := HC.out W; rwa [Int.max_eq_right (Int.le_of_lt h)] at this⟩
    · exact .inr ⟨by omega, fun W => by have := HC.out W; rwa [Int.max_eq_left h] at this⟩
  clear HC
  rcases hcase with ⟨hlt, hc⟩ | ⟨hlt, hc⟩
  all_goals
    have HC := Lib.hid hc
    clear hc
    go_enter Try.func60, Try.ntmps60
    go_wp2_with fail
    refine (HC.out _).mono ?_
    rintro e w1 ⟨rfl, P1⟩
    have hk1 := P1.heap HK.out (fun f => f)
    obtain ⟨d0, d1, fr⟩ := read23 hk1
    obtain ⟨q0, hq0⟩ : ∃ q, num.tdiv n = q := ⟨_, rfl⟩
    obtain ⟨q1, hq1⟩ : ∃ q, den.tdiv n = q := ⟨_, rfl⟩
    have hR : R = (wrap64 q0, wrap64 q1) := by rw [HD.out, hq0, hq1]
    obtain ⟨_, c0', c1', hO⟩ := cell23 hk1 (wrap64 q0) (wrap64 q1)
    have c0 : ((w1.setCell ⟨w.heap.size, 0, none⟩ (.int .i64 (wrap64 q0))).setCell ⟨w.heap.size, 1, none⟩ (.int .i64 (wrap64 q1))).drew.cell? ⟨w.heap.size, 0, none⟩ = some (.int .i64 (wrap64 q0)) := c0'
    have c1 : ((w1.setCell ⟨w.heap.size, 0, none⟩ (.int .i64 (wrap64 q0))).setCell ⟨w.heap.size, 1, none⟩ (.int .i64 (wrap64 q1))).drew.cell? ⟨w.heap.size, 1, none⟩ = some (.int .i64 (wrap64 q1)) := c1'
    have HZ := Lib.hid (And.intro hR ((HP.out.trans P1).trans' hO (fun i hi e => by omega)).drew)
    clear c0' c1'
    clear P1 hk1 hO hR
    go_wp2_with fail
    refine mixed_start (by kernel_rfl) ?_
    refine mixed_take [0, 1, 2, 3, 4, 5, 6] (by kernel_rfl) (Only.refl _ _).drew (fun d _ _ _ _ h => by cases d <;> exact h) 1 (by kernel_rfl) ?_
    simp only [picks, List.drop_succ_cons, List.drop_zero, List.take_succ_cons, List.take_zero, List.cons_append, List.nil_append]
    repeat (go_big_quiet_step (fail))
    refine wpQuiet_nil ?_
    refine mixed_last (i := 7) (by kernel_rfl) rfl (by kernel_rfl) (by kernel_rfl) ?_
    go_wp2
    refine bodyPost_ret (v := .agg #[.int .i64 (wrap64 q0), .int .i64 (wrap64 q1)]) ?_ rfl ⟨by rw [HZ.out.1], HZ.out.2⟩
    simp [results, Try.f60, go_sem, c0, c1]

set_option maxHeartbeats 1000000 in
set_option maxRecDepth 100000 in
theorem plus_any (a b : Fr) (w : World) (hd : wrap64 (a.2 * b.2) ≠ 0) : Calls Try.prog 85 #[.agg #[.int .i64 a.1, .int .i64 a.2], .agg #[.int .i64 b.1, .int .i64 b.2]] w fun e w' => e = .returned (.agg #[.int .i64 (plusF a b).1, .int .i64 (plusF a b).2]) ∧ Pure w w' := by
  have hf := fun W => frac_any (wrap64 (wrap64 (a.1 * b.2) + wrap64 (b.1 * a.2))) (wrap64 (a.2 * b.2)) W hd
  obtain ⟨w1, hw1⟩ : ∃ x, x = ((w.alloc (.cells #[.int .i64 a.1, .int .i64 a.2] 23)).alloc (.cells #[.int .i64 b.1, .int .i64 b.2] 23)).alloc (.cells #[.int .i64 0, .int .i64 0] 23) := ⟨_, rfl⟩
  have hP : Pure w w1 := by rw [hw1]; exact (((Only.refl _ w).alloc _).alloc _).alloc _
  have hk : w1.heap[w.heap.size + 1 + 1]? = some (.cells #[.int .i64 0, .int .i64 0] 23) := by
    have := World.alloc_heap_new ((w.alloc (.cells #[.int .i64 a.1, .int .i64 a.2] 23)).alloc (.cells #[.int .i64 b.1, .int .i64 b.2] 23)) (.cells #[.int .i64 0, .int .i64 0] 23)
    simp only [World.size_alloc] at this
    rw [hw1]; exact this
  obtain ⟨R, hR⟩ : ∃ R, plusF a b = R := ⟨_, rfl⟩
  have hdef : frac (wrap64 (wrap64 (a.1 * b.2) + wrap64 (b.1 * a.2))) (wrap64 (a.2 * b.2)) = R := hR
  rw [hR]
  simp only [hdef] at hf
  have HF := Lib.hid hf; have HW := Lib.hid hw1; have HP := Lib.hid hP; have HK := Lib.hid hk
  clear hf hw1 hP hk hR hdef hd
  go_enter Try.func85, Try.ntmps85
  go_wp2_with fail
  refine (HF.out _).mono ?_
  rw [← HW.out]
  rintro e w2 ⟨rfl, P2⟩
  have hk2 := P2.heap HK.out (fun f => f)
  obtain ⟨d0, d1, fr⟩ := read23 hk2
  obtain ⟨_, c0, c1, hO⟩ := cell23 hk2 R.1 R.2
  have HZ := Lib.hid ((HP.out.trans P2).trans' hO (fun i hi e => by omega))
  clear P2 hk2 hO
  go_wp2
  refine bodyPost_ret (v := .agg #[.int .i64 R.1, .int .i64 R.2]) ?_ rfl ⟨rfl, HZ.out⟩
  simp [results, Try.f85, go_sem, c0, c1]
end Go.Proofs.Ythnjfekkngpbjaa

/- A range over a function whose iterator writes cells of its own between two rounds: what the body keeps of them is Kp; what the body speaks of lies below the iterator's world. -/
namespace Go.Proofs.Ythnjfekkngpbjaa
open Go.RowKit

/-- J minds no change of blocks from B on. -/
def UpFrom {β : Type} (B : Nat) (J : β → World → Prop) : Prop := ∀ s W W', J s W → Only (fun k => B ≤ k) W W' → J s W'
def SeqUp {α : Type} (F : Fence) (n : Nat) (P : Program) (g : Nat) (lb : Array Value) (encs : α → Array Value) (Kp : World → World → Prop) (S : List α → Prop) (N : Nat) (w : World) : Prop :=
  ∀ (l : Nat) (J : List α → World → Prop) (W : World), Below w.heap.size w W → UpFrom W.heap.size J →
    (∀ pre x W1, J pre W1 → pre.length < N → YieldAt F (n - 1) P l (encs x) W1 fun e W' => e = .returned (.bool true) ∧ J (pre ++ [x]) W' ∧ Kp W1 W') →
    J [] W →
    CallsIn F n P g (#[.func (.yield l) #[] #[]] ++ lb) W fun e W' => (∃ v, e = .returned v) ∧ ∃ xs, S xs ∧ J xs W'

/-- Where a body may end: at its end alone. -/
def endPost {α : Type} (B : Nat) (Kp : World → World → Prop) (I : List α → World → Prop) (xs : List α) (W : World) : Exit → Act → World → Prop
  | .normal, _, W' => KeepsFrom B W W' ∧ Kp W W' ∧ I xs W'
  | _, _, _ => False

variable {F : Fence} {n : Nat} {P : Program}
theorem wpIn_rangeFunc_up {α : Type} {g : Operand} {ps : Array Tmp} {assign body : Code} {Q : Exit → Act → World → Prop} {a : Act} {w : World}
    (hro : F.round = none) (h1 : 1 ≤ n) {gf : Nat} {lb : Array Value} (hg : a.eval g = .func (.func gf) #[] lb) (hFg : F.fn gf) (eg : ∀ args w, (callFunc gf args).run P w = .ok (.enter gf args) w)
    {encs : α → Array Value} {Kp : World → World → Prop} {S : List α → Prop} {N : Nat} {w0 : World} (hseq : SeqUp F (n - 1) P gf lb encs Kp S N w0)
    (hKt : ∀ {A B C : World}, Kp A B → Kp B C → Kp A C) (hKb : ∀ (W : World) (l : Nat) (o o' : Obj), w.heap.size ≤ l → W.heap[l]? = some o → o.isCells = false → o.isWalk = false → Kp W (W.putObj l o')) (hb0 : Below w0.heap.size w0 w) (hps : ∀ x, (encs x).size = ps.size)
    (I : List α → World → Prop) (hI : OwnFrom w.heap.size I) (hU : UpFrom (w.heap.size + 2) I) (h0 : I [] w) (Ax : α → Act → World → Prop) (hAx : ∀ x a', OwnFrom w.heap.size (fun (_ : Unit) W => Ax x a' W))
    (hassign : ∀ (l : Nat) (pre : List α) (x : α) (W : World) (K : Act → World → Prop), I pre W → (∀ a' W', KeepsFrom w.heap.size W W' → Kp W W' → I pre W' → Ax x a' W' → K a' W') →
      assign.wpIn (F.inRound l) (n - 1 - 1) P (Exit.then K (fun _ _ _ => False)) { tmps := (ps.zip (encs x)).foldl (fun t (p, v) => t.setIfInBounds p v) a.tmps, defers := [] } W)
    (hbody : ∀ (l : Nat) (pre : List α) (x : α) (a' : Act) (W : World), I pre W → Ax x a' W → pre.length < N → body.wpIn (F.inRound l) (n - 1 - 1) P (endPost w.heap.size Kp I (pre ++ [x]) W) a' W)
    (hdone : ∀ (D : Nat) (xs : List α) (W : World), w.heap.size ≤ D → S xs → I xs W → W.heap[D]? = some (.deferred (some [])) → Q .normal { a with defers := { target := .collected D, args := #[] } :: a.defers } W) :
    (Code.rangeFunc g ps assign body).wpIn F n P Q a w := by
  refine wpIn_rangeFunc ?_
  intro fn hfn
  rw [hro]
  obtain ⟨rec, hrec⟩ : ∃ rec : LoopState → Option Code → Loop, rec = fun st pe => { state := st, pending := pe, fn, tmps := a.tmps, params := ps, assign, body, defers := w.heap.size } := ⟨_, rfl⟩
  obtain ⟨W1, hW1⟩ : ∃ W1, (w.alloc (.deferred (some []))).alloc (.loop (rec .ready none)) = W1 := ⟨_, rfl⟩
  have hs1 : W1.heap.size = w.heap.size + 2 := by rw [← hW1]; simp
  have hL1 : W1.heap[w.heap.size + 1]? = some (.loop (rec .ready none)) := by
    rw [← hW1]; have h := World.alloc_heap_new (w.alloc (.deferred (some []))) (.loop (rec .ready none)); rwa [World.size_alloc] at h
  have hD1 : W1.heap[w.heap.size]? = some (.deferred (some [])) := by
    rw [← hW1]; exact (Below.heap_alloc _ _ _ (by simp)).trans (World.alloc_heap_new w _)
  have hI1 : I [] W1 := by rw [← hW1]; exact hI.alloc _ (hI.alloc _ h0)
  have hb1 : Below w0.heap.size w0 W1 := by
    rw [← hW1]; exact hb0.trans ((((Below.refl _ w).alloc (Nat.le_refl _) _).alloc (by simp) _).mono hb0.size)
  refine ⟨w.heap.size + 1, [{ target := .collected w.heap.size, args := #[] }], W1, { target := .fn (.func gf) lb, args := #[.func (.yield (w.heap.size + 1)) #[] #[]] }, W1, gf,
    #[.func (.yield (w.heap.size + 1)) #[] #[]] ++ lb, W1, ?_, ?_, ?_, ?_, fun _ => h1, ?_⟩
  · rw [← hW1, hrec]; exact run_enterLoop_outer _ _ _ _ _
  · simp only [resolve, hg]
    simp [go_sem]
  · intro f' hf'; simp [Target.leads] at hf'; subst hf'; exact hFg
  · simp [invoke, go_sem, eg]
  · refine (hseq (w.heap.size + 1)
      (fun pre W => I pre W ∧ W.heap[w.heap.size + 1]? = some (.loop (rec .ready none)) ∧ W.heap[w.heap.size]? = some (.deferred (some [])))
      W1 hb1
      (fun s A B hs hO => by
        rw [hs1] at hO
        exact ⟨hU s A B hs.1 hO, hO.heap hs.2.1 (by omega), hO.heap hs.2.2 (by omega)⟩)
      ?_ ⟨hI1, hL1, hD1⟩).mono ?_
    · rintro pre x W ⟨hi, hl, hk⟩ hlen
      have hy := run_yield (P := P) (args := encs x) hl (by rw [hrec]; exact hps x)
      rw [hrec] at hy
      refine ⟨fn, _, assign, body, hy, roundIn_of_wpIn hfn (hassign _ pre x W _ hi ?_)⟩
      intro a' Wa hkf hkp hia hax
      have hl1 := hkf.same _ _ (by omega) hl rfl
      have hk1 := hkf.same _ _ (Nat.le_refl _) hk rfl
      have hlt : w.heap.size + 1 < Wa.heap.size := lt_of_block hl1
      refine ⟨_, run_beginRound hl1 (by rw [hrec]), ?_⟩
      have hl2 : (Wa.putObj (w.heap.size + 1) (.loop { rec .ready none with state := .busy })).heap[w.heap.size + 1]? = some (.loop { rec .ready none with state := .busy }) := World.putObj_heap_same hlt
      have hk2 : (Wa.putObj (w.heap.size + 1) (.loop { rec .ready none with state := .busy })).heap[w.heap.size]? = some (.deferred (some [])) := (World.putObj_heap_other (by omega)).trans hk1
      have hw2 : Kp Wa (Wa.putObj (w.heap.size + 1) (.loop { rec .ready none with state := .busy })) := hKb _ _ _ _ (by omega) hl1 rfl rfl
      refine wpIn_mono (hbody _ pre x a' _ (hI.putObj _ hia (by omega) hl1 rfl) ((hAx x a').putObj (s := ()) _ hax (by omega) hl1 rfl) hlen) ?_
      rintro e a3 W3 hp
      cases e with
      | normal =>
        obtain ⟨hk3, hkp3, hi3⟩ := hp
        have hl3 := hk3.same _ _ (by omega) hl2 rfl
        have hrun := run_endRound (P := P) none hl3
        rw [hrec] at hrun hl3
        refine ⟨_, _, hrun, rfl, ⟨hI.putObj _ hi3 (by omega) hl3 rfl, ?_, (World.putObj_heap_other (by omega)).trans (hk3.same _ _ (Nat.le_refl _) hk2 rfl)⟩, hKt hkp (hKt (hKt hw2 hkp3) (hKb _ _ _ _ (by omega) hl3 rfl rfl))⟩
        rw [hrec]
        exact World.putObj_heap_same (lt_of_block hl3)
      | ret => exact hp.elim
      | exit id => exact hp.elim
      | goto t => exact hp.elim
      | panic ch => exact hp.elim
      | outgrown => exact hp.elim
    · rintro e W2 ⟨⟨v, rfl⟩, xs, hS, hi, hl, hk⟩
      exact ⟨none, _, by have h := run_endLoop (P := P) hl (by rw [hrec]; simp); rw [hrec] at h; exact h, hdone _ xs _ (Nat.le_refl _) hS (hI.putObj _ hi (by omega) hl rfl) ((World.putObj_heap_other (by omega)).trans hk)⟩
end Go.Proofs.Ythnjfekkngpbjaa

/- closer. -/
namespace Go.Proofs.Ythnjfekkngpbjaa
open Go.RowKit Go.Shelf
attribute [local go_sem] Oper.semAt_some

theorem closer_any (r : Fr) (step : Int) (w : World) :
    Calls Try.prog 77 #[.agg #[.int .i64 r.1, .int .i64 r.2], .int .i64 step] w fun e w' => e = .returned (.func (.func 94) #[] #[.pointer (some ⟨w.heap.size, 0, none⟩), .pointer (some ⟨w.heap.size + 1, 0, none⟩)]) ∧ w' = (w.alloc (.cells #[.int .i64 r.1, .int .i64 r.2] 23)).alloc (.cells #[.int .i64 step] 2) := by
  go_enter Try.func77, Try.ntmps77
  go_wp2
  go_ret
  exact ⟨rfl, rfl⟩

def denAt (b : Nat) (W : World) : Nat := match W.cell? ⟨b, 1, none⟩ with
  | some (.int _ n) => n.toNat
  | _ => 0
theorem denAt_row {W : World} {b : Nat} {x y : Int} (h : W.heap[b]? = some (.cells #[.int .i64 x, .int .i64 y] 23)) : denAt b W = y.toNat := by
  have : W.cell? ⟨b, 1, none⟩ = some (.int .i64 y) := cell_of_row _ _ 1 _ _ _ h
  unfold denAt; rw [this]
theorem row23_of {W : World} {b : Nat} {x y : Int} {W' : World} (h : W.heap[b]? = some (.cells #[.int .i64 x, .int .i64 y] 23)) (k : W'.heap[b]? = W.heap[b]?) : W'.heap[b]? = some (.cells #[.int .i64 x, .int .i64 y] 23) := k.trans h
/-- What a body may not touch: rows stay as they lie. -/
def KeepR (D : Nat → Prop) (W W' : World) : Prop := ∀ k cs t, D k → W.heap[k]? = some (.cells cs t (0, 0)) → W'.heap[k]? = some (.cells cs t (0, 0))
theorem KeepR.trans {D : Nat → Prop} {X Y Z : World} (h : KeepR D X Y) (k : KeepR D Y Z) : KeepR D X Z := fun i cs t hD hc => k i cs t hD (h i cs t hD hc)
theorem KeepR.obj {D : Nat → Prop} (W : World) (l : Nat) (o o' : Obj) (h : W.heap[l]? = some o) (hc : o.isCells = false) : KeepR D W (W.putObj l o') := fun k cs t _ hk => by
  by_cases e : k = l
  · subst e; rw [hk] at h; cases h; cases hc
  · exact (World.putObj_heap_other e).trans hk
theorem KeepR.only {D S : Nat → Prop} {W W' : World} (h : Only S W W') (hd : ∀ k, D k → ¬ S k) : KeepR D W W' := fun _ _ _ hD hv => h.heap hv (hd _ hD)
theorem pairsF_succ (r : Fr) (step : Int) (f : Nat) (lo hi : Fr) : pairsF r step (f + 1) lo hi = (lo, hi) :: (if step < (midF lo hi).2 then [] else if lessB r (midF lo hi) then pairsF r step f lo (midF lo hi) else pairsF r step f (midF lo hi) hi) := rfl

theorem pairsF_stop {r : Fr} {step : Int} {f : Nat} {lo hi : Fr} (h : step < (midF lo hi).2) : pairsF r step f lo hi = [(lo, hi)] := by
  cases f with
  | zero => rfl
  | succ f => rw [pairsF_succ, if_pos h]

set_option maxHeartbeats 4000000 in
set_option maxRecDepth 100000 in
theorem closer1_stops (n B1 B2 : Nat) (r : Fr) (step : Int) (w : World) (hn : 2 ≤ n) (hB1 : B1 < w.heap.size) (hB2 : B2 < w.heap.size) (hr : r.2 ≠ 0) (h0 : 1 ≤ step) (h100 : step ≤ 100) (h1 : w.heap[B1]? = some (.cells #[.int .i64 r.1, .int .i64 r.2] 23)) (h2 : w.heap[B2]? = some (.cells #[.int .i64 step] 2)) :
    SeqUp Fence.wide n Try.prog 94 #[.pointer (some ⟨B1, 0, none⟩), .pointer (some ⟨B2, 0, none⟩)] (fun t : Fr × Fr => #[.agg #[.int .i64 t.1.1, .int .i64 t.1.2], .agg #[.int .i64 t.2.1, .int .i64 t.2.2]]) (KeepR (fun k => k = B1 ∨ k = B2 ∨ w.heap.size ≤ k)) (fun l => l = pairsOf r step) 200 w := by
  intro l J W hW hJ hY hj0
  have k1 : W.heap[B1]? = some (.cells #[.int .i64 r.1, .int .i64 r.2] 23) := (hW.block B1 (lt_of_block h1)).trans h1
  have k2 : W.heap[B2]? = some (.cells #[.int .i64 step] 2) := (hW.block B2 (lt_of_block h2)).trans h2
  have hws : w.heap.size ≤ W.heap.size := hW.size
  obtain ⟨r1, r2⟩ := r
  have hr0 : (r2 == 0) = false := by simpa using hr
  have hwhole : wrap64 (r1.tdiv r2) = wholeOf (r1, r2) := rfl
  obtain ⟨wh, hwh⟩ : ∃ x, wholeOf (r1, r2) = x := ⟨_, rfl⟩
  have hpairs : pairsOf (r1, r2) step = pairsF (r1, r2) step 120 (wh, 1) (wrap64 (wh + 1), 1) := by rw [← hwh]; rfl
  have d10 : W.cell? ⟨B1, 0, none⟩ = some (.int .i64 r1) := cell_of_row _ _ 0 _ _ _ k1
  have d11 : W.cell? ⟨B1, 1, none⟩ = some (.int .i64 r2) := cell_of_row _ _ 1 _ _ _ k1
  obtain ⟨W5, hW5⟩ : ∃ x, x = (W.alloc (.cells #[.int .i64 wh, .int .i64 1] 23)).alloc (.cells #[.int .i64 (wrap64 (wh + 1)), .int .i64 1] 23) := ⟨_, rfl⟩
  have hP5 : Pure W W5 := by rw [hW5]; exact ((Only.refl _ W).alloc _).alloc _
  have b5 : W5.heap[W.heap.size]? = some (.cells #[.int .i64 wh, .int .i64 1] 23) := by
    have h := World.alloc_heap_new W (.cells #[.int .i64 wh, .int .i64 1] 23)
    rw [hW5]; exact (Below.heap_alloc _ _ _ (lt_of_block h)).trans h
  have b6 : W5.heap[W.heap.size + 1]? = some (.cells #[.int .i64 (wrap64 (wh + 1)), .int .i64 1] 23) := by
    have h := World.alloc_heap_new (W.alloc (.cells #[.int .i64 wh, .int .i64 1] 23)) (.cells #[.int .i64 (wrap64 (wh + 1)), .int .i64 1] 23)
    rw [World.size_alloc] at h; rw [hW5]; exact h
  have hj5 : J [] W5 := hJ _ _ _ hj0 (hP5.mono (fun _ _ h => h.elim))
  have HY := Lib.hid hY; have HJ5 := Lib.hid hj5; have HB5 := Lib.hid b5; have HB6 := Lib.hid b6; have HK1 := Lib.hid (hP5.heap k1 (fun f => f)); have HK2 := Lib.hid (hP5.heap k2 (fun f => f)); have HW5 := Lib.hid hW5; have HPA := Lib.hid hpairs; have HWH := Lib.hid hwh; have HJA := Lib.hid hJ
  clear h1 h2 hY hj0 hj5 b5 b6 k1 k2 hP5 hW5 hpairs hJ hW hr0
  rw [hwh] at hwhole
  clear hwh
  refine callsIn_of_wp Try.func94 rfl trivial ?_ rfl
  simp only [Try.ntmps94, List.size_toArray, List.length_cons, List.length_nil, Nat.reduceAdd, Nat.reduceSub, Array.replicate_succ, Array.replicate_zero, List.push_toArray, List.append_toArray, List.nil_append, List.cons_append]
  gi_wp2_with fail
  rw [HW5.out] at HJ5 HB5 HB6 HK1 HK2
  gi_loopw [] (fun wr => ∃ (pre : List (Fr × Fr)) (f : Nat) (lo hi : Fr), Hid (pairsOf (r1, r2) step = pre ++ pairsF (r1, r2) step f lo hi) ∧ Hid (J pre wr) ∧ Hid (wr.heap[W.heap.size]? = some (.cells #[.int .i64 lo.1, .int .i64 lo.2] 23)) ∧ Hid (wr.heap[W.heap.size + 1]? = some (.cells #[.int .i64 hi.1, .int .i64 hi.2] 23)) ∧ Hid (wr.heap[B1]? = some (.cells #[.int .i64 r1, .int .i64 r2] 23)) ∧ Hid (wr.heap[B2]? = some (.cells #[.int .i64 step] 2)) ∧ 1 ≤ lo.2 ∧ lo.2 ≤ 100 ∧ 1 ≤ hi.2 ∧ hi.2 ≤ 100 ∧ 122 ≤ (f : Int) + lo.2 + hi.2 ∧ pre.length + f = 120) (fun wr => 300 - (denAt W.heap.size wr + denAt (W.heap.size + 1) wr))
  case atStart => exact ⟨[], 120, (wh, 1), (wrap64 (wh + 1), 1), HPA, HJ5, HB5, HB6, HK1, HK2, by simp, by simp, by simp, by simp, by simp, rfl⟩
  case round =>
    clear HJ5 HB5 HB6 HK1 HK2 HPA
    obtain ⟨pre, f, ⟨lo1, lo2⟩, ⟨hi1, hi2⟩, hpa, hJ, hb5, hb6, hk1, hk2, l1, l2, l3, l4, hf, hlen⟩ := hrel
    dsimp only at l1 l2 l3 l4 hf
    have hmeas : denAt W.heap.size wr + denAt (W.heap.size + 1) wr = lo2.toNat + hi2.toNat := by rw [denAt_row hb5.out, denAt_row hb6.out]
    obtain ⟨e50, e51, _⟩ := read23 hb5.out
    obtain ⟨e60, e61, _⟩ := read23 hb6.out
    obtain ⟨fn, tmps, assign, body, hy2, hR⟩ := HY.out pre ((lo1, lo2), (hi1, hi2)) wr hJ.out (by omega)
    dsimp only at hy2
    have HME := Lib.hid hmeas
    clear hmeas
    obtain ⟨m1, hm1⟩ : ∃ m, wrap64 (lo1 + hi1) = m := ⟨_, rfl⟩
    obtain ⟨m2, hm2⟩ : ∃ m, wrap64 (lo2 + hi2) = m := ⟨_, rfl⟩
    have hm2v : m2 = lo2 + hi2 := by rw [← hm2]; unfold wrap64; omega
    have hmid : midF (lo1, lo2) (hi1, hi2) = (m1, m2) := by unfold midF; rw [hm1, hm2]
    have HMD := Lib.hid hmid; have HM2 := Lib.hid hm2v; have HL := Lib.hid (And.intro l1 (And.intro l2 (And.intro l3 (And.intro l4 hf))))
    clear hmid hm2v l1 l2 l3 l4 hf
    gi_wp2_with fail
    refine ⟨fun _ => by omega, hR.mono ?_⟩
    clear hR e50 e51 e60 e61
    rintro e W3 ⟨rfl, hJ3, hk3⟩
    · have hb5 := Lib.hid (hk3 _ _ _ (.inr (.inr hws)) hb5.out)
      have hb6 := Lib.hid (hk3 _ _ _ (.inr (.inr (by omega))) hb6.out)
      have hk1 := Lib.hid (hk3 _ _ _ (.inl rfl) hk1.out)
      have hk2 := Lib.hid (hk3 _ _ _ (.inr (.inl rfl)) hk2.out)
      have hJ3 := Lib.hid hJ3
      clear hk3 hJ hy2
      obtain ⟨e50, e51, _⟩ := read23 hb5.out
      obtain ⟨e60, e61, _⟩ := read23 hb6.out
      obtain ⟨W4, hW4⟩ : ∃ x, x = W3.alloc (.cells #[.int .i64 m1, .int .i64 m2] 23) := ⟨_, rfl⟩
      have hP4 : Pure W3 W4 := by rw [hW4]; exact (Only.refl _ W3).alloc _
      have hb7 : W4.heap[W3.heap.size]? = some (.cells #[.int .i64 m1, .int .i64 m2] 23) := by rw [hW4]; exact World.alloc_heap_new W3 _
      have hs3 : W.heap.size + 1 < W3.heap.size := lt_of_block hb6.out
      have hb5 := hP4.heap hb5.out (fun f => f)
      have hb6 := hP4.heap hb6.out (fun f => f)
      have hk1 := hP4.heap hk1.out (fun f => f)
      have hk2 := hP4.heap hk2.out (fun f => f)
      have hJ4 := Lib.hid (HJA.out _ _ _ hJ3.out (hP4.mono (fun _ _ h => h.elim)))
      clear hJ3 hP4
      obtain ⟨g50, g51, g5f⟩ := read23 hb5
      obtain ⟨g60, g61, g6f⟩ := read23 hb6
      obtain ⟨g10, g11, _⟩ := read23 hk1
      obtain ⟨g70, g71, _⟩ := read23 hb7
      have g2 : W4.cell? ⟨B2, 0, none⟩ = some (.int .i64 step) := cell_of_row _ _ 0 _ _ _ hk2
      have H5 := Lib.hid hb5; have H6 := Lib.hid hb6; have H7 := Lib.hid hb7; have K1 := Lib.hid hk1; have K2 := Lib.hid hk2; have HW4 := Lib.hid hW4
      clear hb5 hb6 hb7 hk1 hk2
      rw [hW4] at g50 g51 g5f g60 g61 g6f g10 g11 g70 g71 g2
      clear hW4
      rcases Int.lt_or_le step m2 with hlt | hle
      · have hfin : pre ++ [((lo1, lo2), (hi1, hi2))] = pairsOf (r1, r2) step := by
          rw [hpa.out, pairsF_stop (by rw [HMD.out]; exact hlt)]
        have HF := Lib.hid hfin
        clear hfin
        gi_wp2_with fail
        rw [← HW4.out]
        refine bodyPost_ret (results_none rfl _ _ _) rfl ?_
        exact ⟨⟨_, rfl⟩, _, HF.out, hJ4.out⟩
      · obtain ⟨f, rfl⟩ : ∃ g, f = g + 1 := ⟨f - 1, by have := HM2.out; obtain ⟨_, _, _, _, _⟩ := HL.out; omega⟩
        have hnext := pairsF_succ (r1, r2) step f (lo1, lo2) (hi1, hi2)
        rw [HMD.out, if_neg (show ¬ step < (m1, m2).2 from Int.not_lt.mpr hle)] at hnext
        rcases hb : lessB (r1, r2) (m1, m2)
        · rw [hb] at hnext
          replace hnext := Lib.hid hnext
          gi_wp2_with fail
          refine ⟨trivial, fun _ => by omega, (callsIn_wide.2 (less_any (r1, r2) (m1, m2) _)).mono ?_⟩
          rw [← HW4.out]
          rintro e W5 ⟨rfl, P5⟩
          rw [hb]
          obtain ⟨g50, g51, g5f⟩ := read23 (P5.heap H5.out (fun f => f))
          obtain ⟨g60, g61, g6f⟩ := read23 (P5.heap H6.out (fun f => f))
          obtain ⟨g70, g71, _⟩ := read23 (P5.heap H7.out (fun f => f))
          have HP5 := Lib.hid P5
          clear P5
          gi_wp2_with fail
          obtain ⟨l1, l2, l3, l4, hf⟩ := HL.out
          have hm2v := HM2.out
          have hnext := hnext.out
          go_roundw
          case rel =>
            obtain ⟨s2, _, _, hO⟩ := cell23 (HP5.out.heap H5.out (fun f => f)) m1 m2
            exact ⟨pre ++ [((lo1, lo2), (hi1, hi2))], f, (m1, m2), (hi1, hi2), Lib.hid (by rw [hpa.out, hnext]; simp), Lib.hid (HJA.out _ _ _ hJ4.out ((HP5.out.mono (fun _ _ h => h.elim)).trans (hO.mono (fun k _ e => by omega)))),
              Lib.hid s2, Lib.hid (hO.heap (HP5.out.heap H6.out (fun f => f)) (by omega)), Lib.hid (hO.heap (HP5.out.heap K1.out (fun f => f)) (by omega)), Lib.hid (hO.heap (HP5.out.heap K2.out (fun f => f)) (by omega)), by dsimp only; omega, by dsimp only; omega, by dsimp only; omega, by dsimp only; omega, by dsimp only; omega, by simp; omega⟩
          case measure =>
            obtain ⟨s2, _, _, hO⟩ := cell23 (HP5.out.heap H5.out (fun f => f)) m1 m2
            rw [HME.out, denAt_row s2, denAt_row (hO.heap (HP5.out.heap H6.out (fun f => f)) (by omega))]; omega
        · rw [hb] at hnext
          replace hnext := Lib.hid hnext
          gi_wp2_with fail
          refine ⟨trivial, fun _ => by omega, (callsIn_wide.2 (less_any (r1, r2) (m1, m2) _)).mono ?_⟩
          rw [← HW4.out]
          rintro e W5 ⟨rfl, P5⟩
          rw [hb]
          obtain ⟨g50, g51, g5f⟩ := read23 (P5.heap H5.out (fun f => f))
          obtain ⟨g60, g61, g6f⟩ := read23 (P5.heap H6.out (fun f => f))
          obtain ⟨g70, g71, _⟩ := read23 (P5.heap H7.out (fun f => f))
          have HP5 := Lib.hid P5
          clear P5
          gi_wp2_with fail
          obtain ⟨l1, l2, l3, l4, hf⟩ := HL.out
          have hm2v := HM2.out
          have hnext := hnext.out
          go_roundw
          case rel =>
            obtain ⟨s2, _, _, hO⟩ := cell23 (HP5.out.heap H6.out (fun f => f)) m1 m2
            exact ⟨pre ++ [((lo1, lo2), (hi1, hi2))], f, (lo1, lo2), (m1, m2), Lib.hid (by rw [hpa.out, hnext]; simp), Lib.hid (HJA.out _ _ _ hJ4.out ((HP5.out.mono (fun _ _ h => h.elim)).trans (hO.mono (fun k _ e => by omega)))),
              Lib.hid (hO.heap (HP5.out.heap H5.out (fun f => f)) (by omega)), Lib.hid s2, Lib.hid (hO.heap (HP5.out.heap K1.out (fun f => f)) (by omega)), Lib.hid (hO.heap (HP5.out.heap K2.out (fun f => f)) (by omega)), by dsimp only; omega, by dsimp only; omega, by dsimp only; omega, by dsimp only; omega, by dsimp only; omega, by simp; omega⟩
          case measure =>
            obtain ⟨s2, _, _, hO⟩ := cell23 (HP5.out.heap H6.out (fun f => f)) m1 m2
            rw [HME.out, denAt_row (hO.heap (HP5.out.heap H5.out (fun f => f)) (by omega)), denAt_row s2]; omega
end Go.Proofs.Ythnjfekkngpbjaa

/- A region that draws its order, in the body of a range over a function: what holds outside of a round holds in it. -/
namespace Go.Proofs.Ythnjfekkngpbjaa
open Go.RowKit

theorem opIn_of_op {P : Program} {r n i : Nat} {ops : Array Oper} {a : Act} {K K' : Act → World → Prop} {Q : Exit → Act → World → Prop} {w : World} (hd : noDefer ops = true) (hl : ¬ LetsOut Q) (h : ∀ a w, K a w → K' a w) (hh : wpOp P ops Q i K a w) :
    wpOpIn (Fence.wide.inRound r) n P ops Q i K' a w := by
  unfold wpOp at hh
  refine wpOpIn_mono h ?_
  unfold wpOpIn
  split
  · rename_i ho; simp only [ho] at hh; exact hh
  · rename_i o ho
    simp only [ho] at hh
    split
    · rename_i hw; simp only [hw, if_true] at hh; exact operIn_of_wp (noDefer_spec hd ho) (hh.resolve_right fun h => hl h.2)
    · rename_i hw; simp only [hw] at hh; exact ⟨fun _ _ => trivial, hh⟩
theorem anyIn_of_any {P : Program} {r n : Nat} {md : Region.Mode} {ops : Array Oper} {Q : Exit → Act → World → Prop} (hd : noDefer ops = true) (hl : ¬ LetsOut Q) : ∀ (fuel : Nat) (listed : Array Bool) (a : Act) (w : World),
    wpAny P md ops Q fuel listed a w → wpAnyIn (Fence.wide.inRound r) n P md ops Q fuel listed a w
  | 0, _, _, _, h => ⟨h.1, h.2⟩
  | fuel + 1, _, _, _, h => ⟨fun h0 => h.1 h0, fun i hi => opIn_of_op hd hl (fun a' w' => anyIn_of_any hd hl fuel _ a' w') (h.2 i hi)⟩
theorem round_mixed {P : Program} {r n id : Nat} {a : Act} {w : World} {Q : Exit → Act → World → Prop} {l : List Oper} (hm : P.follows .mixedOrders = true) (hd : noDefer l.toArray = true) (hl : ¬ LetsOut Q)
    (h : AnyG P l.toArray w Q l.length (Array.replicate l.length false) a w.drew) : (Code.region id l.toArray true).wpIn (Fence.wide.inRound r) n P Q a w :=
  wpIn_region_any hm (anyIn_of_any hd hl _ _ _ _ (wpAny_of_G _ _ _ _ (by simpa using h)))
theorem round_any {P : Program} {r n id : Nat} (G : World → Prop) {a : Act} {w : World} {Q : Exit → Act → World → Prop} {l : List Oper} (hm : P.follows .mixedOrders = true) (hd : noDefer l.toArray = true) (hl : ¬ LetsOut Q)
    (h : AnyC P l.toArray G Q l.length (Array.replicate l.length false) a w.drew) : (Code.region id l.toArray true).wpIn (Fence.wide.inRound r) n P Q a w :=
  wpIn_region_any hm (anyIn_of_any hd hl _ _ _ _ (wpAny_of_G _ _ _ _ (by simpa using h)))
end Go.Proofs.Ythnjfekkngpbjaa

/- near. -/
namespace Go.Proofs.Ythnjfekkngpbjaa
open Go.RowKit Go.Shelf
attribute [local go_sem] Oper.semAt_some

def lastF (l : List (Fr × Fr)) : Fr × Fr := l.getLast?.getD ((0, 0), (0, 0))
structure NearI (w0 : World) (pre : List (Fr × Fr)) (W : World) : Prop where
  z1 : W.heap[w0.heap.size + 1]? = some (.cells #[.int .i64 0, .int .i64 0] 23)
  z2 : W.heap[w0.heap.size + 2]? = some (.cells #[.int .i64 0, .int .i64 0] 23)
  lo : W.heap[w0.heap.size + 3]? = some (.cells #[.int .i64 (lastF pre).1.1, .int .i64 (lastF pre).1.2] 23)
  hi : W.heap[w0.heap.size + 4]? = some (.cells #[.int .i64 (lastF pre).2.1, .int .i64 (lastF pre).2.2] 23)
  only : Only (fun k => w0.heap.size ≤ k) w0 W
theorem NearI.only' {w0 : World} {pre : List (Fr × Fr)} {S : Nat → Prop} {W W' : World} (h : NearI w0 pre W) (hO : Only S W W') (hS : ∀ k, S k → w0.heap.size + 4 < k) : NearI w0 pre W' :=
  ⟨hO.heap h.z1 (fun e => by have := hS _ e; omega), hO.heap h.z2 (fun e => by have := hS _ e; omega), hO.heap h.lo (fun e => by have := hS _ e; omega), hO.heap h.hi (fun e => by have := hS _ e; omega), h.only.trans (hO.mono (fun k _ e => by have := hS _ e; omega))⟩
theorem NearI.near {w0 : World} {B : Nat} (hB : w0.heap.size ≤ B) (pre : List (Fr × Fr)) (W W' : World) (h : Near B W W') (k : NearI w0 pre W) : NearI w0 pre W' :=
  ⟨h.row k.z1, h.row k.z2, h.row k.lo, h.row k.hi, h.only k.only hB⟩
theorem lastF_snoc (pre : List (Fr × Fr)) (x : Fr × Fr) : lastF (pre ++ [x]) = x := by simp [lastF]

set_option maxHeartbeats 4000000 in
set_option maxRecDepth 100000 in
theorem near_any (r : Fr) (step : Int) (w : World) (hr : r.2 ≠ 0) (h0 : 1 ≤ step) (h100 : step ≤ 100) :
    Calls Try.prog 45 #[.agg #[.int .i64 r.1, .int .i64 r.2], .int .i64 step] w fun e w' => e = .returned (.tuple #[.agg #[.int .i64 (nearOf r step).1.1, .int .i64 (nearOf r step).1.2], .agg #[.int .i64 (nearOf r step).2.1, .int .i64 (nearOf r step).2.2]]) ∧ Pure w w' := by
  obtain ⟨w5, hw5⟩ : ∃ x, x = (((((w.alloc (.cells #[.int .i64 r.1, .int .i64 r.2] 23)).alloc (.cells #[.int .i64 0, .int .i64 0] 23)).alloc (.cells #[.int .i64 0, .int .i64 0] 23)).alloc (.cells #[.int .i64 0, .int .i64 0] 23)).alloc (.cells #[.int .i64 0, .int .i64 0] 23)) := ⟨_, rfl⟩
  have hs5 : w5.heap.size = w.heap.size + 5 := by rw [hw5]; simp
  have hI5 : NearI w [] w5 := by
    have a1 := World.alloc_heap_new (w.alloc (.cells #[.int .i64 r.1, .int .i64 r.2] 23)) (.cells #[.int .i64 0, .int .i64 0] 23)
    have a2 := World.alloc_heap_new ((w.alloc (.cells #[.int .i64 r.1, .int .i64 r.2] 23)).alloc (.cells #[.int .i64 0, .int .i64 0] 23)) (.cells #[.int .i64 0, .int .i64 0] 23)
    have a3 := World.alloc_heap_new (((w.alloc (.cells #[.int .i64 r.1, .int .i64 r.2] 23)).alloc (.cells #[.int .i64 0, .int .i64 0] 23)).alloc (.cells #[.int .i64 0, .int .i64 0] 23)) (.cells #[.int .i64 0, .int .i64 0] 23)
    have a4 := World.alloc_heap_new ((((w.alloc (.cells #[.int .i64 r.1, .int .i64 r.2] 23)).alloc (.cells #[.int .i64 0, .int .i64 0] 23)).alloc (.cells #[.int .i64 0, .int .i64 0] 23)).alloc (.cells #[.int .i64 0, .int .i64 0] 23)) (.cells #[.int .i64 0, .int .i64 0] 23)
    simp only [World.size_alloc] at a1 a2 a3 a4
    rw [hw5]
    refine ⟨?_, ?_, ?_, ?_, ((((Only.refl _ w).alloc _).alloc _).alloc _ |>.alloc _).alloc _⟩
    · exact (Below.heap_alloc _ _ _ (by simp)).trans ((Below.heap_alloc _ _ _ (by simp)).trans ((Below.heap_alloc _ _ _ (by simp)).trans a1))
    · exact (Below.heap_alloc _ _ _ (by simp)).trans ((Below.heap_alloc _ _ _ (by simp)).trans a2)
    · exact (Below.heap_alloc _ _ _ (by simp)).trans a3
    · exact a4
  have hcl := closer_any r step
  obtain ⟨w7, hw7⟩ : ∃ x, x = (w5.alloc (.cells #[.int .i64 r.1, .int .i64 r.2] 23)).alloc (.cells #[.int .i64 step] 2) := ⟨_, rfl⟩
  have hs7 : w7.heap.size = w.heap.size + 7 := by rw [hw7]; simp [hs5]
  have hI7 : NearI w [] w7 := by
    rw [hw7]
    exact (NearI.near (B := w.heap.size) (Nat.le_refl _) _ _ _ (Near.alloc _ _ _) (NearI.near (B := w.heap.size) (Nat.le_refl _) _ _ _ (Near.alloc _ _ _) hI5))
  have b1 : w7.heap[w.heap.size + 5]? = some (.cells #[.int .i64 r.1, .int .i64 r.2] 23) := by
    have h := World.alloc_heap_new w5 (.cells #[.int .i64 r.1, .int .i64 r.2] 23)
    rw [hs5] at h; rw [hw7]; exact (Below.heap_alloc _ _ _ (by simp [hs5])).trans h
  have b2 : w7.heap[w.heap.size + 6]? = some (.cells #[.int .i64 step] 2) := by
    have h := World.alloc_heap_new (w5.alloc (.cells #[.int .i64 r.1, .int .i64 r.2] 23)) (.cells #[.int .i64 step] 2)
    rw [World.size_alloc, hs5] at h; rw [hw7]; exact h
  have hseq := closer1_stops 9 (w.heap.size + 5) (w.heap.size + 6) r step w7 (by decide) (by omega) (by omega) hr h0 h100 b1 b2
  obtain ⟨R, hR⟩ : ∃ R, nearOf r step = R := ⟨_, rfl⟩
  have hlast : lastF (pairsOf r step) = R := hR
  rw [hR]
  have HW5 := Lib.hid hw5; have HW7 := Lib.hid hw7; have HI7 := Lib.hid hI7; have HS := Lib.hid hseq; have HL := Lib.hid hlast; have HS5 := Lib.hid hs5; have HS7 := Lib.hid hs7
  clear hw5 hw7 hI5 hI7 hseq hlast hR b1 b2 hs5 hs7 hr h0 h100
  have hcl5 := hcl w5
  rw [HS5.out, ← HW7.out] at hcl5
  have HCL := Lib.hid hcl5
  clear hcl hcl5
  refine (callsIn_wide (n := 10)).1 ?_
  refine callsIn_of_ret Try.func45 rfl trivial ?_ rfl
  simp only [Try.ntmps45, List.size_toArray, List.length_cons, List.length_nil, Nat.reduceAdd, Nat.reduceSub, Array.replicate_succ, Array.replicate_zero, List.push_toArray, List.append_toArray, List.nil_append, List.cons_append]
  gi_wp2_with fail
  rw [← HW5.out]
  refine ⟨trivial, (callsIn_wide.2 HCL.out).mono ?_⟩
  rintro e w6 ⟨rfl, hw6⟩
  obtain rfl : w7 = w6 := hw6.symm
  clear hw6
  gi_wp2_with fail
  refine wpIn_rangeFunc_up (F := Fence.wide) (n := 10) rfl (by decide) (gf := 94) (lb := #[.pointer (some ⟨w.heap.size + 5, 0, none⟩), .pointer (some ⟨w.heap.size + 5 + 1, 0, none⟩)]) rfl trivial (enters_of Try.func94 (by kernel_rfl) rfl) HS.out (fun h k => h.trans k) (fun W l o o' _ h hc _ => KeepR.obj W l o o' h hc) (Below.refl _ _) (fun _ => rfl)
    (NearI w) (own_of (fun pre W W' h k => NearI.near (B := w7.heap.size) (by have := HS7.out; omega) pre W W' h k)) (fun pre W W' h k => NearI.only' h k (fun k hk => by have := HS7.out; omega)) HI7.out
    (fun x a' W => ∃ B8 B9, w.heap.size + 4 < B8 ∧ w.heap.size + 4 < B9 ∧ W.heap[B8]? = some (.cells #[.int .i64 x.1.1, .int .i64 x.1.2] 23 (0, 0)) ∧ W.heap[B9]? = some (.cells #[.int .i64 x.2.1, .int .i64 x.2.2] 23 (0, 0)) ∧ a' = { tmps := #[Value.agg #[Value.int IntKind.i64 r.fst, Value.int IntKind.i64 r.snd], Value.int IntKind.i64 step, .pointer (some ⟨w.heap.size, 0, none⟩), undef, .pointer (some ⟨w.heap.size + 1, 0, none⟩), .pointer (some ⟨w.heap.size + 1 + 1, 0, none⟩), .pointer (some ⟨w.heap.size + 1 + 1 + 1, 0, none⟩), .pointer (some ⟨w.heap.size + 1 + 1 + 1 + 1, 0, none⟩), .pointer (some ⟨B8, 0, none⟩), .pointer (some ⟨B9, 0, none⟩), .agg #[.int .i64 r.1, .int .i64 r.2], .int .i64 step, .func (.func 94) #[] #[.pointer (some ⟨w.heap.size + 5, 0, none⟩), .pointer (some ⟨w.heap.size + 5 + 1, 0, none⟩)], .agg #[.int .i64 x.1.1, .int .i64 x.1.2], .agg #[.int .i64 x.2.1, .int .i64 x.2.2], undef, undef, undef, undef], defers := [] })
    ?hAx ?assign ?body ?done
  case hAx =>
    intro x a' s X Y row ⟨B8, B9, h8, h9, c8, c9, ha⟩ hg hr
    have hk : ∀ (B : Nat) cs t, X.heap[B]? = some (.cells cs t (0, 0)) → Y.heap[B]? = some (.cells cs t (0, 0)) := fun B cs t hc => (hg.block B (lt_of_block hc) (fun e => by obtain ⟨_, o, ho, hc'⟩ := hr B e.symm; rw [hc] at ho; cases ho; cases hc')).trans hc
    exact ⟨B8, B9, h8, h9, hk _ _ _ c8, hk _ _ _ c9, ha⟩
  case assign =>
    intro l pre x W K hi hK
    have h4 : w.heap.size + 4 < W.heap.size := lt_of_block hi.hi
    have hn2 : Pure W ((W.alloc (.cells #[.int .i64 x.1.1, .int .i64 x.1.2] 23)).alloc (.cells #[.int .i64 x.2.1, .int .i64 x.2.2] 23)) := ((Only.refl _ W).alloc _).alloc _
    have hk := hK { tmps := #[Value.agg #[Value.int IntKind.i64 r.fst, Value.int IntKind.i64 r.snd], Value.int IntKind.i64 step, .pointer (some ⟨w.heap.size, 0, none⟩), undef, .pointer (some ⟨w.heap.size + 1, 0, none⟩), .pointer (some ⟨w.heap.size + 1 + 1, 0, none⟩), .pointer (some ⟨w.heap.size + 1 + 1 + 1, 0, none⟩), .pointer (some ⟨w.heap.size + 1 + 1 + 1 + 1, 0, none⟩), .pointer (some ⟨W.heap.size, 0, none⟩), .pointer (some ⟨W.heap.size + 1, 0, none⟩), .agg #[.int .i64 r.1, .int .i64 r.2], .int .i64 step, .func (.func 94) #[] #[.pointer (some ⟨w.heap.size + 5, 0, none⟩), .pointer (some ⟨w.heap.size + 5 + 1, 0, none⟩)], .agg #[.int .i64 x.1.1, .int .i64 x.1.2], .agg #[.int .i64 x.2.1, .int .i64 x.2.2], undef, undef, undef, undef], defers := [] } _ (((KeepsOthers.alloc _ _).trans (KeepsOthers.alloc _ _)).from _) (KeepR.only hn2 (fun _ _ f => f)) (hi.only' hn2 (fun _ f => f.elim))
      ⟨W.heap.size, W.heap.size + 1, h4, by omega, (Below.heap_alloc _ _ _ (by simp)).trans (World.alloc_heap_new W _), by have h := World.alloc_heap_new (W.alloc (.cells #[.int .i64 x.1.1, .int .i64 x.1.2] 23)) (.cells #[.int .i64 x.2.1, .int .i64 x.2.2] 23); rwa [World.size_alloc] at h, rfl⟩
    have HK := Lib.hid hk
    clear hK hk hi hn2 h4
    gi_wp2
    exact HK.out
  case body =>
    rintro l pre x a' W hI ⟨B8, B9, h8, h9, c8, c9, rfl⟩ hlt
    obtain ⟨b, hb⟩ : ∃ b, w.heap.size = b := ⟨_, rfl⟩
    obtain ⟨z1, z2, lo, hi, only⟩ := hI
    rw [hb] at h8 h9 z1 z2 lo hi ⊢
    obtain ⟨G, hG⟩ : ∃ G : World → Prop, ∀ x, G x ↔ Only (fun k => k = b + 3 ∨ k = b + 4) W x := ⟨_, fun _ => Iff.rfl⟩
    have g8 : ∀ g' : InG G, g'.world.cell? ⟨B8, 0, none⟩ = some (.int .i64 x.1.1) ∧ g'.world.cell? ⟨B8, 1, none⟩ = some (.int .i64 x.1.2) := fun g' => by
      obtain ⟨a, b, _⟩ := read23 (((hG _).1 g'.holds).heap c8 (by omega)); exact ⟨a, b⟩
    have g9 : ∀ g' : InG G, g'.world.cell? ⟨B9, 0, none⟩ = some (.int .i64 x.2.1) ∧ g'.world.cell? ⟨B9, 1, none⟩ = some (.int .i64 x.2.2) := fun g' => by
      obtain ⟨a, b, _⟩ := read23 (((hG _).1 g'.holds).heap c9 (by omega)); exact ⟨a, b⟩
    have g80 := fun g' => (g8 g').1
    have g81 := fun g' => (g8 g').2
    have g90 := fun g' => (g9 g').1
    have g91 := fun g' => (g9 g').2
    haveI hInh : Inhabited (InG G) := ⟨⟨W, (hG W).2 (Only.refl _ _)⟩⟩
    have MKG := Lib.hid (fun x (h : Only (fun k => k = b + 3 ∨ k = b + 4) W x) => (hG x).2 h)
    obtain ⟨l0, l1, lf⟩ := read23 lo
    obtain ⟨s3, _, _, hO3⟩ := cell23 lo x.1.1 x.1.2
    have hi3 := hO3.heap hi (by omega)
    obtain ⟨i0, i1, jf⟩ := read23 hi3
    obtain ⟨s4, _, _, hO4⟩ := cell23 hi3 x.2.1 x.2.2
    have lo4 := hO4.heap s3 (by omega)
    have hO := (hO3.mono (S' := fun k => k = b + 3 ∨ k = b + 4) (fun k _ e => .inl e)).trans (hO4.mono (fun k _ e => .inr e))
    have HO := Lib.hid hO; have HO3 := Lib.hid hO3; have HZ := Lib.hid (And.intro z1 (And.intro z2 (And.intro lo4 (And.intro s4 only)))); have HB := Lib.hid hb
    clear hO hO3 hO4 z1 z2 lo4 s4 only lo hi hi3 s3 hG g8 g9 c8 c9 h8 h9 hb
    gi_wp2_with fail
    refine round_any G (by kernel_rfl) (by kernel_rfl) (fun ⟨_, _, h⟩ => h) ?_
    refine any_take [0, 1] (by kernel_rfl) (MKG.out _ (Only.refl _ _).drew) (fun d _ _ _ _ h => by cases d <;> exact h) 2 (by kernel_rfl) ?_
    simp only [picks, List.drop_succ_cons, List.drop_zero, List.take_succ_cons, List.take_zero, List.cons_append, List.nil_append]
    repeat (go_big_quiet_step (fail))
    refine wpQuiet_nil ?_
    replace l0 : W.cell? ⟨b + 1 + 1 + 1, 0, none⟩ = some (.int .i64 (lastF pre).1.1) := l0
    replace l1 : W.cell? ⟨b + 1 + 1 + 1, 1, none⟩ = some (.int .i64 (lastF pre).1.2) := l1
    replace lf : ∀ j, W.frozen? ⟨b + 1 + 1 + 1, j, none⟩ = false := lf
    refine any_force (i := 2) (by kernel_rfl) rfl ?_
    go_wp2_with fail
    refine ⟨MKG.out _ (HO3.out.drew.mono (fun k _ e => .inl e)), ?_⟩
    refine any_force (i := 3) (by kernel_rfl) rfl ?_
    go_wp2_with fail
    refine ⟨MKG.out _ HO.out.drew, any_done (by kernel_rfl) ?_⟩
    have hz := HZ.out
    have hkf := ((((KeepsOthers.setCell W ⟨b + 1 + 1 + 1, 0, none⟩ (.int .i64 x.1.1)).trans (KeepsOthers.setCell _ ⟨b + 1 + 1 + 1, 1, none⟩ (.int .i64 x.1.2))).trans (KeepsOthers.setCell _ ⟨b + 1 + 1 + 1 + 1, 0, none⟩ (.int .i64 x.2.1))).trans (KeepsOthers.setCell _ ⟨b + 1 + 1 + 1 + 1, 1, none⟩ (.int .i64 x.2.2))).from w7.heap.size
    have hend : endPost w7.heap.size (KeepR fun k => k = b + 5 ∨ k = b + 6 ∨ w7.heap.size ≤ k) (NearI w) (pre ++ [x]) W .normal ⟨#[], []⟩ ((((W.setCell ⟨b + 1 + 1 + 1, 0, none⟩ (.int .i64 x.1.1)).setCell ⟨b + 1 + 1 + 1, 1, none⟩ (.int .i64 x.1.2)).setCell ⟨b + 1 + 1 + 1 + 1, 0, none⟩ (.int .i64 x.2.1)).setCell ⟨b + 1 + 1 + 1 + 1, 1, none⟩ (.int .i64 x.2.2)).drew := by
      refine ⟨⟨hkf.size, hkf.same⟩, KeepR.only HO.out.drew (fun k hk => by have := HS7.out; have := HB.out; omega), ?_⟩
      have hb := HB.out
      have hO := HO.out
      subst hb
      refine ⟨?_, ?_, by rw [lastF_snoc]; exact hz.2.2.1, by rw [lastF_snoc]; exact hz.2.2.2.1, hz.2.2.2.2.trans (hO.drew.mono (fun k _ e => by omega))⟩
      · exact hO.drew.heap hz.1 (by omega)
      · exact hO.drew.heap hz.2.1 (by omega)
    exact hend
  case done =>
    rintro D ys W hD hS hI hK
    have hl := HL.out
    rw [← hS] at hl
    obtain ⟨b, hb⟩ : ∃ b, w.heap.size = b := ⟨_, rfl⟩
    have hs7 := HS7.out
    obtain ⟨z1, z2, lo, hi, only⟩ := hI
    rw [hb] at z1 z2 lo hi only hs7 ⊢
    rw [hl] at lo hi
    obtain ⟨G, hG⟩ : ∃ G : World → Prop, ∀ x, G x ↔ Only (fun k => k = b + 1 ∨ k = b + 2) W x := ⟨_, fun _ => Iff.rfl⟩
    have g3 : ∀ g' : InG G, g'.world.cell? ⟨b + 1 + 1 + 1, 0, none⟩ = some (.int .i64 R.1.1) ∧ g'.world.cell? ⟨b + 1 + 1 + 1, 1, none⟩ = some (.int .i64 R.1.2) := fun g' => by
      obtain ⟨u, v, _⟩ := read23 (((hG _).1 g'.holds).heap lo (by omega)); exact ⟨u, v⟩
    have g4 : ∀ g' : InG G, g'.world.cell? ⟨b + 1 + 1 + 1 + 1, 0, none⟩ = some (.int .i64 R.2.1) ∧ g'.world.cell? ⟨b + 1 + 1 + 1 + 1, 1, none⟩ = some (.int .i64 R.2.2) := fun g' => by
      obtain ⟨u, v, _⟩ := read23 (((hG _).1 g'.holds).heap hi (by omega)); exact ⟨u, v⟩
    have g30 := fun g' => (g3 g').1
    have g31 := fun g' => (g3 g').2
    have g40 := fun g' => (g4 g').1
    have g41 := fun g' => (g4 g').2
    haveI hInh : Inhabited (InG G) := ⟨⟨W, (hG W).2 (Only.refl _ _)⟩⟩
    have MKG := Lib.hid (fun x (h : Only (fun k => k = b + 1 ∨ k = b + 2) W x) => (hG x).2 h)
    obtain ⟨l0, l1, lf⟩ := read23 z1
    obtain ⟨s3, _, _, hO3⟩ := cell23 z1 R.1.1 R.1.2
    have hi3 := hO3.heap z2 (by omega)
    obtain ⟨i0, i1, jf⟩ := read23 hi3
    obtain ⟨s4, c0, c1, hO4⟩ := cell23 hi3 R.2.1 R.2.2
    have lo4 := hO4.heap s3 (by omega)
    obtain ⟨b0, b1, _⟩ := read23 lo4
    have hO := (hO3.mono (S' := fun k => k = b + 1 ∨ k = b + 2) (fun k _ e => .inl e)).trans (hO4.mono (fun k _ e => .inr e))
    have hD4 := hO.heap hK (by omega)
    have HO := Lib.hid hO; have HO3 := Lib.hid hO3; have HD4 := Lib.hid hD4; have HON := Lib.hid only; have HB := Lib.hid hb
    have HR4 := Lib.hid (And.intro (And.intro b0 b1) (And.intro c0 c1))
    clear hO hO3 hO4 z1 z2 lo4 s4 lo hi hi3 s3 hG g3 g4 hK hD4 only hb b0 b1 c0 c1 hl
    gi_wp2_with fail
    refine wpIn_wide.2 ?_
    refine any_start G (by kernel_rfl) ?_
    refine any_take [0, 1] (by kernel_rfl) (MKG.out _ (Only.refl _ _).drew) (fun d _ _ _ _ h => by cases d <;> exact h) 2 (by kernel_rfl) ?_
    simp only [picks, List.drop_succ_cons, List.drop_zero, List.take_succ_cons, List.take_zero, List.cons_append, List.nil_append]
    repeat (go_big_quiet_step (fail))
    refine wpQuiet_nil ?_
    replace l0 : W.cell? ⟨b + 1, 0, none⟩ = some (.int .i64 0) := l0
    refine any_force (i := 2) (by kernel_rfl) rfl ?_
    go_wp2_with fail
    refine ⟨MKG.out _ (HO3.out.drew.mono (fun k _ e => .inl e)), ?_⟩
    refine any_force (i := 3) (by kernel_rfl) rfl ?_
    go_wp2_with fail
    refine ⟨MKG.out _ HO.out.drew, any_done (by kernel_rfl) ?_⟩
    go_wp2_with fail
    gi_wp2_with fail
    obtain ⟨W4, hW4⟩ : ∃ x, x = ((((W.setCell ⟨b + 1, 0, none⟩ (.int .i64 R.1.1)).setCell ⟨b + 1, 1, none⟩ (.int .i64 R.1.2)).setCell ⟨b + 1 + 1, 0, none⟩ (.int .i64 R.2.1)).setCell ⟨b + 1 + 1, 1, none⟩ (.int .i64 R.2.2)) := ⟨_, rfl⟩
    rw [← hW4]
    have hD4 : W4.drew.heap[D]? = some (.deferred (some [])) := by rw [hW4]; exact HD4.out
    have hO4 : Only (fun k => k = b + 1 ∨ k = b + 2) W W4 := by rw [hW4]; exact HO.out
    have hr4 : (W4.cell? ⟨b + 1, 0, none⟩ = some (.int .i64 R.1.1) ∧ W4.cell? ⟨b + 1, 1, none⟩ = some (.int .i64 R.1.2)) ∧ (W4.cell? ⟨b + 1 + 1, 0, none⟩ = some (.int .i64 R.2.1) ∧ W4.cell? ⟨b + 1 + 1, 1, none⟩ = some (.int .i64 R.2.2)) := by rw [hW4]; exact HR4.out
    refine retPost_ret ⟨by simp, .inl ⟨_, _, rfl, run_takeDeferred hD4, ?_⟩⟩
    have hOD : Only (fun k => k = D) W4.drew (W4.drew.putObj D (.deferred none)) := ⟨rfl, rfl, rfl, by simp [World.putObj], fun k _ hn => World.putObj_heap_other hn⟩
    have hsz : w7.heap.size ≤ D := hD
    have b0 := hOD.cell (p := ⟨b + 1, 0, none⟩) hr4.1.1 (fun e => by have e' : b + 1 = D := e; omega)
    have b1 := hOD.cell (p := ⟨b + 1, 1, none⟩) hr4.1.2 (fun e => by have e' : b + 1 = D := e; omega)
    have c0 := hOD.cell (p := ⟨b + 1 + 1, 0, none⟩) hr4.2.1 (fun e => by have e' : b + 1 + 1 = D := e; omega)
    have c1 := hOD.cell (p := ⟨b + 1 + 1, 1, none⟩) hr4.2.2 (fun e => by have e' : b + 1 + 1 = D := e; omega)
    refine leaves_nil (.tuple #[.agg #[.int .i64 R.1.1, .int .i64 R.1.2], .agg #[.int .i64 R.2.1, .int .i64 R.2.2]]) ?_ ⟨rfl, ?_⟩
    · simp [results, Try.f45, go_sem, b0, b1, c0, c1]
    · exact ((HON.out.mono (S' := fun _ => False) (fun k hk e => by have := HB.out; omega)).trans' hO4.drew (fun k hk e => by have := HB.out; omega)).trans' hOD (fun k hk e => by have := HB.out; omega)
end Go.Proofs.Ythnjfekkngpbjaa

/- isFraction, asked, first. -/
namespace Go.Proofs.Ythnjfekkngpbjaa
open Go.RowKit Go.Shelf

theorem row_lift {w : World} {cs : Array Value} {t : TypeId} {w' : World} (h : Pure (w.alloc (.cells cs t)) w') : w'.heap[w.heap.size]? = some (.cells cs t (0, 0)) := h.heap (World.alloc_heap_new w _) (fun f => f)

set_option maxHeartbeats 1000000 in
set_option maxRecDepth 100000 in
theorem isFr_any (r : Fr) (w : World) : Calls Try.prog 49 #[.agg #[.int .i64 r.1, .int .i64 r.2]] w fun e w' => e = .returned (.bool (isFr r)) ∧ Pure w w' := by
  obtain ⟨w2, hw2⟩ : ∃ x, x = (w.alloc (.cells #[.int .i64 r.1, .int .i64 r.2] 23)).alloc (.cells #[.int .i64 r.2] 2) := ⟨_, rfl⟩
  have hP2 : Pure w w2 := by rw [hw2]; exact ((Only.refl _ w).alloc _).alloc _
  have hk : w2.heap[w.heap.size]? = some (.cells #[.int .i64 r.1, .int .i64 r.2] 23) := by
    rw [hw2]; exact (Below.heap_alloc _ _ _ (by simp)).trans (World.alloc_heap_new w _)
  have hn : w2.heap[w.heap.size + 1]? = some (.cells #[.int .i64 r.2] 2) := by
    rw [hw2]; have h := World.alloc_heap_new (w.alloc (.cells #[.int .i64 r.1, .int .i64 r.2] 23)) (.cells #[.int .i64 r.2] 2); rwa [World.size_alloc] at h
  have hq := within_one 1 1000000 r.2 (w.heap.size + 1) w2 (cell_of_row _ _ 0 _ _ _ hn)
  have HW := Lib.hid hw2; have HP := Lib.hid hP2; have HK := Lib.hid hk; have HQ := Lib.hid hq
  clear hw2 hP2 hk hn hq
  go_enter Try.func49, Try.ntmps49
  go_wp2_with fail
  rw [← HW.out]
  refine HQ.out.mono ?_
  rintro e w3 ⟨rfl, P3⟩
  obtain ⟨e0, e1, _⟩ := read23 (P3.heap HK.out (fun f => f))
  have HP3 := Lib.hid (HP.out.trans P3)
  clear P3
  rcases hb : withinB 1 1000000 [r.2]
  · have HI := Lib.hid (show isFr r = false from by unfold isFr; rw [hb]; rfl)
    clear hb
    go_wp2_with fail
    go_ret
    exact ⟨by rw [HI.out]; rfl, HP3.out⟩
  · have HI := Lib.hid (show isFr r = withinB 0 (wrap64 (1000 * r.2)) [r.1] from by unfold isFr; rw [hb]; rfl)
    clear hb
    go_wp2_with fail
    refine (within_one 0 (wrap64 (1000 * r.2)) r.1 _ _ (new_cell _ _ _ _ _ _ rfl rfl)).mono ?_
    rintro e w4 ⟨rfl, P4⟩
    have HP4 := Lib.hid ((HP3.out.alloc _).trans P4)
    clear P4
    go_wp2
    go_ret
    exact ⟨by rw [HI.out]; rfl, HP4.out⟩

set_option maxHeartbeats 1000000 in
set_option maxRecDepth 100000 in
theorem asked_any (r : Fr) (step : Int) (w : World) : Calls Try.prog 44 #[.agg #[.int .i64 r.1, .int .i64 r.2], .int .i64 step] w fun e w' => e = .returned (.int .i64 (askedE r step)) ∧ Pure w w' := by
  go_enter Try.func44, Try.ntmps44
  go_wp2_with fail
  refine (isFr_any r _).mono ?_
  rintro e w1 ⟨rfl, P1⟩
  have HP := Lib.hid (((Only.refl _ w).alloc _).trans P1)
  clear P1
  rcases hb : isFr r
  · have HI := Lib.hid (show askedE r step = 3 from by unfold askedE; rw [if_pos hb])
    clear hb
    go_wp2_with fail
    go_ret
    exact ⟨by rw [HI.out]; rfl, HP.out⟩
  · go_wp2_with fail
    refine (within_one 1 100 step _ _ (new_cell _ _ _ _ _ _ rfl rfl)).mono ?_
    rintro e w2 ⟨rfl, P2⟩
    have HP2 := Lib.hid ((HP.out.alloc _).trans P2)
    clear P2
    rcases hc : withinB 1 100 [step]
    · have HI := Lib.hid (show askedE r step = 2 from by unfold askedE; rw [if_neg (by rw [hb]; decide), if_pos hc])
      clear hb hc
      go_wp2_with fail
      go_ret
      exact ⟨by rw [HI.out]; rfl, HP2.out⟩
    · have HI := Lib.hid (show askedE r step = 0 from by unfold askedE; rw [if_neg (by rw [hb]; decide), if_neg (by rw [hc]; decide)])
      clear hb hc
      go_wp2_with fail
      go_ret
      exact ⟨by rw [HI.out]; rfl, HP2.out⟩

theorem within1 {lo hi x : Int} (h : withinB lo hi [x] = true) : lo ≤ x ∧ x ≤ hi := by
  simp [withinB, outB] at h; omega
theorem isFr_true {r : Fr} (h : isFr r = true) : 1 ≤ r.2 ∧ r.2 ≤ 1000000 ∧ 0 ≤ r.1 ∧ r.1 ≤ 1000 * r.2 := by
  unfold isFr at h
  rw [Bool.and_eq_true] at h
  obtain ⟨h1, h2⟩ := within1 h.1
  obtain ⟨h3, h4⟩ := within1 h.2
  have h5 : wrap64 (1000 * r.2) = 1000 * r.2 := by unfold wrap64; omega
  rw [h5] at h4
  exact ⟨h1, h2, h3, h4⟩
theorem asked_zero {r : Fr} {step : Int} (h : askedE r step = 0) : 1 ≤ r.2 ∧ r.2 ≤ 1000000 ∧ 0 ≤ r.1 ∧ r.1 ≤ 1000 * r.2 ∧ 1 ≤ step ∧ step ≤ 100 := by
  unfold askedE at h
  rcases hb : isFr r with _ | _
  · rw [if_pos hb] at h; cases h
  · rw [if_neg (by rw [hb]; decide)] at h
    rcases hc : withinB 1 100 [step] with _ | _
    · rw [if_pos hc] at h; cases h
    · obtain ⟨a, b, c, d⟩ := isFr_true hb
      obtain ⟨e, f⟩ := within1 hc
      exact ⟨a, b, c, d, e, f⟩
end Go.Proofs.Ythnjfekkngpbjaa

/- Blocks laid one behind the other. -/
namespace Go.Proofs.Ythnjfekkngpbjaa
open Go.RowKit
def lay (w : World) : List Obj → World
  | [] => w
  | o :: os => lay (w.alloc o) os
theorem lay_pure : ∀ (os : List Obj) (w : World), Pure w (lay w os)
  | [], w => Only.refl _ w
  | o :: os, w => ((Only.refl _ w).alloc o).trans (lay_pure os (w.alloc o) |>.mono (fun _ _ f => f))
theorem lay_size : ∀ (os : List Obj) (w : World), (lay w os).heap.size = w.heap.size + os.length
  | [], w => rfl
  | o :: os, w => by show (lay (w.alloc o) os).heap.size = _; rw [lay_size os (w.alloc o), World.size_alloc]; simp; omega
theorem lay_row : ∀ (os : List Obj) (w : World) (i : Nat) (o : Obj), os[i]? = some o → (lay w os).heap[w.heap.size + i]? = some o
  | [], _, _, _, h => by simp at h
  | o :: os, w, 0, o', h => by
    simp at h; subst h
    exact (lay_pure os (w.alloc o)).heap (World.alloc_heap_new w o) (fun f => f)
  | o :: os, w, i + 1, o', h => by
    have := lay_row os (w.alloc o) i o' (by simpa using h)
    rw [World.size_alloc] at this
    rw [Nat.add_comm i 1, ← Nat.add_assoc]; exact this
end Go.Proofs.Ythnjfekkngpbjaa

