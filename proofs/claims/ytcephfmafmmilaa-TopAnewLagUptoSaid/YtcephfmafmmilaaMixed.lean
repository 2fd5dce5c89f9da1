/-
  A region that draws its order, with operations that make memory or call: what only reads is taken first, the rest comes in a forced order.
-/
import Derived.Test.YtcephfmafmmilaaRegion
namespace Go.Proofs.Ytcephfmafmmilaa
open Go.RowKit

/-- An operation that calls no Go function. -/
def plainB (o : Oper) : Bool :=
  match o.op with
  | .move _ | .assign _ | .pick .. | .build .. | .load .. | .nilCheck _ | .binOp .. | .unOp .. | .slice .. | .fieldAddr .. | .field .. | .indexAddr .. | .index .. | .lookup .. | .extract .. | .makeFunc .. | .convert .. => true
  | .call c => match c.callee with
    | .builtin .len => true
    | .builtin .min => true
    | .builtin .max => true
    | _ => false
  | _ => false

def noE (P : Program) (s : Sem Next) : Prop := ∀ w w' f args, s.run P w ≠ .ok (.enter f args) w'
theorem noE_pure {P : Program} (u : Value) : noE P (pure (Next.value u)) := fun w w' f args => by simp
theorem noE_bind {P : Program} {α : Type} {s : Sem α} {g : α → Sem Next} (h : ∀ a, noE P (g a)) : noE P (s >>= g) := fun w w' f args => by
  rw [Sem.run_bind]
  cases hs : s.run P w with
  | ok a w1 => simpa using h a w1 w' f args
  | halt x w1 => simp
theorem noE_panic {P : Program} : noE P (runtimePanic .nilDeref) := fun w w' f args => by
  simp [runtimePanic, goPanic, go_sem]
theorem plain_noEnter {P : Program} {o : Oper} (h : plainB o = true) (ρ : Operand → Value) : noE P (execOp ρ o) := by
  have key : ∀ (s : Sem Value), noE P (do pure (Next.value (← s))) := fun s => noE_bind fun a => noE_pure a
  unfold plainB at h
  unfold execOp
  cases ho : o.op <;> simp only [ho] at h ⊢ <;> first | exact absurd h (by decide) | exact key _ | exact noE_pure _ | skip
  case pick c a b => exact noE_bind fun _ => noE_pure _
  case nilCheck x =>
    split
    · exact noE_panic
    · exact noE_panic
    · exact noE_panic
    · split
      · exact noE_panic
      · refine noE_bind fun a => noE_bind fun b => ?_
        split
        · exact noE_bind fun _ => noE_pure _
        · exact noE_pure _
      · exact noE_pure _
    · exact noE_pure _
  case call c =>
    unfold resolve
    split at h
    all_goals first | exact absurd h (by decide) | skip
    all_goals rename_i hc; simp only [hc]
    all_goals intro w w' f args
    all_goals rw [Sem.run_bind, Sem.run_pure]
    all_goals simp only [Result.andThen_ok, invoke, builtin]
    all_goals exact key _ w w' f args

section
variable {P : Program} {ops : Array Oper} {md : Region.Mode} {G : World → Prop} {Q : Exit → Act → World → Prop}

/-- The last operation, where it comes behind all others. -/
def lastB (md : Region.Mode) (ops : Array Oper) (j : Nat) : Bool :=
  j + 1 == ops.size && match ops[j]? with
    | some o => (List.range j).all fun i => o.after.any fun e => Region.binds md e && e.on == i
    | none => false
theorem lastB_spec {md : Region.Mode} {ops : Array Oper} {j i : Nat} {oj : Oper} (h : lastB md ops j = true) (hj : ops[j]? = some oj) (hi : i < ops.size) (hne : i ≠ j) : ∃ e ∈ oj.after, Region.binds md e = true ∧ e.on = i := by
  unfold lastB at h
  simp only [hj, Bool.and_eq_true, beq_iff_eq, List.all_eq_true, List.mem_range] at h
  obtain ⟨e, he, hb⟩ := Array.any_eq_true'.1 (h.2 i (by omega))
  simp only [Bool.and_eq_true, beq_iff_eq] at hb
  exact ⟨e, he, hb⟩

/-- Whatever order is picked from here on, every operation but the last leaving a world of the class. -/
def wpAnyG (P : Program) (md : Region.Mode) (ops : Array Oper) (G : World → Prop) (Q : Exit → Act → World → Prop) : Nat → Array Bool → Act → World → Prop
  | 0, listed, a, w => Region.ready md ops listed = [] ∧ Q .normal a w
  | f + 1, listed, a, w => (Region.ready md ops listed = [] → Q .normal a w) ∧
    ∀ i ∈ Region.ready md ops listed, wpOp P ops Q i (fun a' w' => (lastB md ops i = false → G w') ∧ wpAnyG P md ops G Q f (listed.setIfInBounds i true) a' w') a w

theorem wpAny_of_G : ∀ (f : Nat) (listed : Array Bool) (a : Act) (w : World), wpAnyG P md ops G Q f listed a w → wpAny P md ops Q f listed a w
  | 0, _, _, _, h => h
  | f + 1, _, _, _, h => ⟨h.1, fun i hi => wpOp_mono (fun a' w' h' => wpAny_of_G f _ a' w' h'.2) (h.2 i hi)⟩

/-- In state 'a', in every world of the class, operation 'o' leaves 'v' in its temporary and the world as it is. -/
def YieldsG (P : Program) (ops : Array Oper) (G : World → Prop) (o : Oper) (v : Value) (a : Act) : Prop :=
  (Region.wanted o (yielded ops a.tmps) = true ∧ ∀ w, G w → ((execOp a.eval o).run P w = .ok (.value v) w ∨ ((execOp a.eval o).run P w = .ok .skip w ∧ v = undef))) ∨
  (Region.wanted o (yielded ops a.tmps) = false ∧ v = undef)

theorem YieldsG.of_same {o : Oper} {v : Value} {a a' : Act} (hy : YieldsG P ops G o v a) (he : execOp a'.eval o = execOp a.eval o)
    (hw : Region.wanted o (yielded ops a'.tmps) = Region.wanted o (yielded ops a.tmps)) : YieldsG P ops G o v a' := by
  unfold YieldsG at *
  rw [he, hw]
  exact hy

theorem yieldsG_of_in {o : Oper} {v : Value} {a : Act} (hp : plainB o = true) (hy : YieldsIn P ops G o v a) : YieldsG P ops G o v a := by
  rcases hy with ⟨hw, h⟩ | h
  · refine .inl ⟨hw, fun w hg => ?_⟩
    have h1 := h w hg
    unfold Oper.quietAt at h1
    have hn := plain_noEnter (P := P) hp a.eval w
    generalize (execOp a.eval o).run P w = r at h1 hn
    cases r with
    | ok n w' =>
      cases n <;> simp only [Oper.quietUpon] at h1
      case value u => obtain ⟨rfl, rfl⟩ := h1; exact .inl rfl
      case skip => obtain ⟨rfl, rfl⟩ := h1; exact .inr ⟨rfl, rfl⟩
      case enter f args => exact absurd rfl (hn w' f args)
    | halt x w' => simp only [Oper.quietUpon] at h1
  · exact .inr h

theorem YieldsG.wpOp {i : Nat} {o : Oper} {v : Value} {a : Act} {w : World} (hi : ops[i]? = some o) (hg : G w) (hy : YieldsG P ops G o v a) {K : Act → World → Prop} (h : K (a.put o.dst v) w) : wpOp P ops Q i K a w := by
  unfold Go.wpOp
  simp only [hi]
  rcases hy with ⟨hw, hv⟩ | ⟨hw, rfl⟩
  · simp only [hw, if_true]
    rcases hv w hg with h1 | ⟨h1, rfl⟩
    · simp only [Oper.wp, h1, Oper.upon]; exact .inl h
    · simp only [Oper.wp, h1, Oper.upon]; exact .inl h
  · simp only [hw, Bool.false_eq_true, if_false]; exact h

theorem wpOp_putG {j : Nat} {oi oj : Oper} {v : Value} (hj : ops[j]? = some oj) (hap : oi.apart ops oj = true)
    (hsi : ∀ cs b, oi.op ≠ .select cs b) (hsj : ∀ cs b, oj.op ≠ .select cs b)
    (hQ : ∀ c a w, Q (.panic c) (a.put oi.dst v) w → Q (.panic c) a w) {K : Act → World → Prop} {a : Act} {w : World}
    (hy : YieldsG P ops G oi v a) (h : wpOp P ops Q j K (a.put oi.dst v) w) :
    wpOp P ops Q j (fun a' w' => YieldsG P ops G oi v a' ∧ K (a'.put oi.dst v) w') a w := by
  obtain ⟨h1, h2, h3⟩ := Oper.apart_spec hap
  have keep : ∀ (a : Act), YieldsG P ops G oi v a → ∀ u, YieldsG P ops G oi v (a.put oj.dst u) := fun a hy u =>
    hy.of_same (execOp_put oi hsi a oj.dst u h3) (wanted_put oi a oj.dst u h3)
  have keepD : ∀ d, YieldsG P ops G oi v { a with defers := d :: a.defers } := fun d => hy.of_same rfl rfl
  unfold wpOp at *
  simp only [hj] at *
  rw [wanted_put oj a oi.dst v h1] at h
  split
  · rename_i hw
    simp only [hw, if_true] at h
    rcases h with h | ⟨hasks, hlets⟩
    case inr => exact .inr ⟨by unfold Oper.asks at *; rw [execOp_put oj hsj a oi.dst v h1] at hasks; exact hasks, hlets⟩
    refine .inl ?_
    unfold Oper.wp at *
    rw [execOp_put oj hsj a oi.dst v h1] at h
    generalize (execOp a.eval oj).run P w = r at *
    cases r with
    | ok n w' =>
      cases n <;> simp only [Oper.upon] at h ⊢
      case value u => exact ⟨keep a hy u, by rw [← Act.put_comm a v u h2]; exact h⟩
      case skip => exact ⟨keep a hy _, by rw [← Act.put_comm a v undef h2]; exact h⟩
      case defer d =>
        refine ⟨keep _ (keepD d) _, ?_⟩
        rw [← Act.put_comm _ v undef h2, ← Act.put_defers]
        exact h
      case enter f args =>
        refine Calls.mono h fun e w'' he => ?_
        cases e with
        | returned u => exact ⟨keep a hy u, by rw [← Act.put_comm a v u h2]; exact he⟩
        | panicked c => exact hQ _ _ _ he
        | outgrown => exact he
      case row row args => exact Rows.mono h fun u w'' he => ⟨keep a hy u, by rw [← Act.put_comm a v u h2]; exact he⟩
    | halt x w' =>
      cases x <;> simp only [Oper.upon] at h ⊢
      case panic u => exact hQ _ _ _ h
  · rename_i hw
    simp only [hw] at h
    exact ⟨keep a hy _, by rw [← Act.put_comm a v undef h2]; exact h⟩

theorem wpAnyG_first {i : Nat} {oi : Oper} {v : Value} (hi : ops[i]? = some oi) (hsel : ∀ (j : Nat) (o : Oper) cs b, ops[j]? = some o → o.op ≠ .select cs b)
    (hQ : ∀ c a w, Q (.panic c) (a.put oi.dst v) w → Q (.panic c) a w) :
    ∀ (f : Nat) (listed : Array Bool) (a : Act) (w : World), G w →
      (∀ j oj, ops[j]? = some oj → j ≠ i → listed.getD j true = false → (∀ e ∈ oj.after, Region.binds md e = true → e.on ≠ i) → oi.apart ops oj = true) →
      i ∈ Region.ready md ops listed → YieldsG P ops G oi v a →
      wpAnyG P md ops G Q f (listed.setIfInBounds i true) (a.put oi.dst v) w → wpAnyG P md ops G Q (f + 1) listed a w := by
  intro f
  induction f with
  | zero =>
    intro listed a w hg _ hr hy H
    refine ⟨fun h => (by rw [h] at hr; cases hr), fun j hj => ?_⟩
    by_cases hji : j = i
    · subst hji; exact hy.wpOp hi hg ⟨fun _ => hg, H⟩
    · have := ready_mono hj hji
      rw [H.1] at this
      cases this
  | succ f ih =>
    intro listed a w hg hfree hr hy H
    refine ⟨fun h => (by rw [h] at hr; cases hr), fun j hj => ?_⟩
    by_cases hji : j = i
    · subst hji; exact hy.wpOp hi hg ⟨fun _ => hg, H⟩
    · have h1 := H.2 j (ready_mono hj hji)
      obtain ⟨hjun, oj, hoj, hall⟩ := mem_ready.1 hj
      have hnot : ∀ e ∈ oj.after, Region.binds md e = true → e.on ≠ i := fun e he hb heq => by
        have h1 := hall e he hb
        have h0 := (mem_ready.1 hr).1
        rw [heq] at h1
        rcases Nat.lt_or_ge i listed.size with h' | h'
        · simp [h'] at h0 h1; rw [h0] at h1; cases h1
        · simp [Array.getElem?_eq_none h'] at h1
      have h2 := wpOp_putG (Q := Q) hoj (hfree j oj hoj hji hjun hnot) (fun cs b => hsel i oi cs b hi) (fun cs b => hsel j oj cs b hoj) hQ hy h1
      have hfree' : ∀ k ok, ops[k]? = some ok → k ≠ i → (listed.setIfInBounds j true).getD k true = false →
          (∀ e ∈ ok.after, Region.binds md e = true → e.on ≠ i) → oi.apart ops ok = true := fun k ok hk hki hun hno => by
        refine hfree k ok hk hki ?_ hno
        by_cases hjk : j = k
        · subst hjk; exact hjun
        · rw [getD_set_ne true hjk] at hun; exact hun
      have hnl : lastB md ops j = false := by
        cases hl : lastB md ops j with
        | false => rfl
        | true =>
          obtain ⟨e, he, hb, hon⟩ := lastB_spec hl hoj (Array.getElem?_eq_some_iff.1 hi).1 (Ne.symm hji)
          exact absurd hon (hnot e he hb)
      refine wpOp_mono (fun a' w' h3 => ?_) h2
      have hg' : G w' := h3.2.1 hnl
      refine ⟨fun _ => hg', ih (listed.setIfInBounds j true) a' w' hg' hfree' (ready_mono hr (Ne.symm hji)) h3.1 ?_⟩
      rw [Array.setIfInBounds_comm _ _ hji]
      exact h3.2.2

/-- What only reads is taken first, in the order given. -/
def takesB (md : Region.Mode) (ops : Array Oper) : List Nat → Array Bool → Bool
  | [], _ => true
  | i :: is, listed => (Region.ready md ops listed).contains i && Region.free md ops listed i && (match ops[i]? with | some o => plainB o | none => false) && takesB md ops is (listed.setIfInBounds i true)

theorem wpAnyG_takes (hsel : Region.noSelect ops = true) {w : World} (hg : G w) (hQ : ∀ (d : Option Tmp) (v : Value) c a w, Q (.panic c) (a.put d v) w → Q (.panic c) a w) (f : Nat) :
    ∀ (is : List Nat) (l : List Oper) (listed : Array Bool) (a : Act), is.map (fun i => ops[i]?) = l.map some → takesB md ops is listed = true →
      wpQuiet P ops G (fun a' => wpAnyG P md ops G Q f (is.foldl (fun s i => s.setIfInBounds i true) listed) a' w) l a → wpAnyG P md ops G Q (f + is.length) listed a w := by

  intro is
  induction is with
  | nil =>
    intro l listed a hl _ h
    cases l with
    | nil => exact h
    | cons o l => simp at hl
  | cons i is ih =>
    intro l listed a hl hB h
    cases l with
    | nil => simp at hl
    | cons o l =>
      simp only [List.map_cons, List.cons.injEq] at hl
      obtain ⟨hi, hl⟩ := hl
      simp only [takesB, hi, Bool.and_eq_true] at hB
      obtain ⟨⟨⟨hr, hf⟩, hp⟩, hB⟩ := hB
      have hq : qOp P ops G i (wpQuiet P ops G (fun a' => wpAnyG P md ops G Q f ((i :: is).foldl (fun s i => s.setIfInBounds i true) listed) a' w) l) a := by
        unfold qOp; simp only [hi]; exact h
      obtain ⟨v, hy, hK⟩ := yieldsIn_of_qOp hi hq
      rw [List.length_cons, show f + (is.length + 1) = (f + is.length) + 1 by omega]
      exact wpAnyG_first hi (Region.noSelect_spec hsel) (hQ _ _) _ _ _ _ hg (Region.free_spec hi hf) (by simpa using hr) (yieldsG_of_in hp hy) (ih l _ _ hl hB hK)

def picks (l : List Oper) : List Nat → List Oper
  | [] => []
  | i :: is => (l.drop i).take 1 ++ picks l is
theorem take_drop_one (l : List Oper) (i : Nat) (o : Oper) (h : l[i]? = some o) : (l.drop i).take 1 = [o] := by
  obtain ⟨hi, rfl⟩ := List.getElem?_eq_some_iff.1 h
  rw [List.drop_eq_getElem_cons hi]; rfl

theorem wpAnyG_take (is : List Nat) (hsel : Region.noSelect ops = true) {listed : Array Bool} {a : Act} {w : World} (hg : G w) (hQ : ∀ (d : Option Tmp) (v : Value) c a w, Q (.panic c) (a.put d v) w → Q (.panic c) a w) (f : Nat)
    (hB : takesB md ops is listed = true) (h : wpQuiet P ops G (fun a' => wpAnyG P md ops G Q f (is.foldl (fun s i => s.setIfInBounds i true) listed) a' w) (picks ops.toList is) a) :
    wpAnyG P md ops G Q (f + is.length) listed a w := by
  refine wpAnyG_takes hsel hg hQ f is _ _ _ ?_ hB h
  clear h
  induction is generalizing listed with
  | nil => rfl
  | cons i is ih =>
    simp only [takesB, Bool.and_eq_true] at hB
    cases hi : ops[i]? with
    | none => rw [hi] at hB; simp at hB
    | some o =>
      have h1 : ops.toList[i]? = some o := by rw [Array.getElem?_toList]; exact hi
      simp only [List.map_cons, picks, take_drop_one _ _ _ h1, hi, List.cons_append, List.nil_append, List.cons.injEq, true_and]; exact ih hB.2

theorem wp_exits {o : Oper} {a : Act} {w : World} {K : Act → World → Prop} {Q Q' : Exit → Act → World → Prop} (hp : ∀ c a w, Q' (.panic c) a w → Q (.panic c) a w) (ho : LetsOut Q' → LetsOut Q)
    (h : o.wp P a w K Q' ∨ (o.asks P a w ∧ LetsOut Q')) : o.wp P a w K Q ∨ (o.asks P a w ∧ LetsOut Q) := by
  rcases h with h | ⟨h, hl⟩
  · refine .inl ?_
    unfold Oper.wp at *
    generalize (execOp a.eval o).run P w = r at *
    cases r with
    | ok n w' =>
      cases n <;> simp only [Oper.upon] at h ⊢ <;> first | exact h | skip
      case enter f args =>
        refine Calls.mono h fun e w'' he => ?_
        cases e with
        | returned u => exact he
        | panicked c => exact hp _ _ _ he
        | outgrown => exact ho he
    | halt x w' =>
      cases x <;> simp only [Oper.upon] at h ⊢
      case panic u => exact hp _ _ _ h
  · exact .inr ⟨h, ho hl⟩

theorem wpList_exits {o : Oper} {a : Act} {w : World} {Q Q' : Exit → Act → World → Prop} (hn : ∀ a w, Q' .normal a w → Q .normal a w) (hp : ∀ c a w, Q' (.panic c) a w → Q (.panic c) a w) (ho : LetsOut Q' → LetsOut Q)
    (h : wpList P ops Q' [o] a w) : wpList P ops Q [o] a w := by
  unfold wpList at *
  split
  · rename_i hw
    rw [if_pos hw] at h
    exact wp_exits hp ho (h.imp (Oper.wp_mono hn) id)
  · rename_i hw
    rw [if_neg hw] at h
    exact hn _ _ h

/-- One operation that must come next. -/
theorem wpAnyG_force {i : Nat} {o : Oper} {f : Nat} {listed : Array Bool} {a : Act} {w : World} (hr : Region.ready md ops listed = [i]) (ho : ops[i]? = some o)
    (h : wpList P ops (fun e a' w' => match e with
      | .normal => (lastB md ops i = false → G w') ∧ wpAnyG P md ops G Q f (listed.setIfInBounds i true) a' w'
      | e => Q e a' w') [o] a w) : wpAnyG P md ops G Q (f + 1) listed a w := by
  refine ⟨fun h0 => (by rw [h0] at hr; cases hr), fun j hj => ?_⟩
  rw [hr] at hj
  obtain rfl : j = i := by simpa using hj
  unfold wpList at h
  unfold wpOp
  simp only [ho]
  split
  · rename_i hw
    rw [if_pos hw] at h
    exact wp_exits (fun _ _ _ h => h) (fun h => h) h
  · rename_i hw
    rw [if_neg hw] at h
    exact h

theorem wpAnyG_done {listed : Array Bool} {a : Act} {w : World} (hr : Region.ready md ops listed = []) (h : Q .normal a w) : wpAnyG P md ops G Q 0 listed a w := ⟨hr, h⟩

/-! ### Where every operation but the last makes memory at most -/
/-- What is left of a region whose operations leave all memory of W as it is. -/
abbrev AnyG (P : Program) (ops : Array Oper) (W : World) (Q : Exit → Act → World → Prop) (f : Nat) (listed : Array Bool) (a : Act) (w : World) : Prop := wpAnyG P .any ops (fun w' => ∃ g, w' = grow W g) Q f listed a w

theorem mixed_start {id : Nat} {a : Act} {w : World} {l : List Oper} (hm : P.follows .mixedOrders = true)
    (h : AnyG P l.toArray w Q l.length (Array.replicate l.length false) a w.drew) : (Code.region id l.toArray true).wp P Q a w :=
  wp_region_any hm (wpAny_of_G _ _ _ _ (by simpa using h))
theorem mixed_take {W : World} (is : List Nat) (hsel : Region.noSelect ops = true) {listed : Array Bool} {a : Act} {w : World} (hP : Only (fun _ => False) W w) (hQ : ∀ (d : Option Tmp) (v : Value) c a w, Q (.panic c) (a.put d v) w → Q (.panic c) a w) (f : Nat)
    (hB : takesB .any ops is listed = true) (h : wpQuiet P ops (fun w' => ∃ g, w' = grow W g) (fun a' => AnyG P ops W Q f (is.foldl (fun s i => s.setIfInBounds i true) listed) a' w) (picks ops.toList is) a) :
    AnyG P ops W Q (f + is.length) listed a w := wpAnyG_take is hsel (pure_grow hP) hQ f hB h
theorem mixed_force {W : World} {i : Nat} {o : Oper} {f : Nat} {listed : Array Bool} {a : Act} {w : World} (hr : Region.ready .any ops listed = [i]) (ho : ops[i]? = some o)
    (h : wpList P ops (fun e a' w' => match e with
      | .normal => Only (fun _ => False) W w' ∧ AnyG P ops W Q f (listed.setIfInBounds i true) a' w'
      | e => Q e a' w') [o] a w) : AnyG P ops W Q (f + 1) listed a w :=
by
  refine wpAnyG_force hr ho (wpList_exits ?_ ?_ ?_ h)
  · exact fun a' w' h => ⟨fun _ => pure_grow h.1, h.2⟩
  · exact fun _ _ _ h => h
  · exact fun h => h
theorem mixed_last {W : World} {i : Nat} {o : Oper} {listed : Array Bool} {a : Act} {w : World} (hr : Region.ready .any ops listed = [i]) (ho : ops[i]? = some o) (hl : lastB .any ops i = true) (he : Region.ready .any ops (listed.setIfInBounds i true) = [])
    (h : wpList P ops Q [o] a w) : AnyG P ops W Q 1 listed a w :=
by
  refine wpAnyG_force hr ho (wpList_exits ?_ ?_ ?_ h)
  · exact fun a' w' h => ⟨fun h0 => (by rw [hl] at h0; cases h0), he, h⟩
  · exact fun _ _ _ h => h
  · exact fun h => h
end
end Go.Proofs.Ytcephfmafmmilaa
