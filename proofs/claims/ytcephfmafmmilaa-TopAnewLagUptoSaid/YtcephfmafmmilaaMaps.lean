/-
  Maps that a call makes, as functions from keys to values: look-up, store, delete, length, and a range over one in whatever order.
-/
import Derived.Test.YtcephfmafmmilaaKit
import Derived.Maps.RangeRun
import Derived.Laws.StructEq
namespace Go.Proofs.Ytcephfmafmmilaa
open Go.RowKit
set_option linter.unusedSectionVars false

section
variable {P : Program} {K : TypeId} {κ : Type} [DecidableEq κ] {kv : κ → Value}

/-- What is wanted of a key's type. -/
structure KeyLaw (P : Program) (K : TypeId) {κ : Type} [DecidableEq κ] (kv : κ → Value) : Prop where
  inj : ∀ a b, kv a = kv b → a = b
  check : ∀ em x w, (Instr.checkKey em 10000 K (kv x)).run P w = .ok () w
  eq : ∀ x y w, (Op.equal K (kv x) (kv y)).run P w = .ok (decide (x = y)) w
  now : ∃ d, P.underlying K = some d ∧ ((∀ x y, Instr.sameNow d (kv x) (kv y) = none) ∨ (∀ x y, Instr.sameNow d (kv x) (kv y) = some (decide (x = y))))
  bits : ∀ x, Instr.sameBits 10000 (kv x) (kv x) = true

def ent (kv : κ → Value) (e : κ × Value × Nat) : MapEntry := ⟨kv e.1, e.2.1, e.2.2⟩
def hit (x : κ) : List (κ × Value × Nat) → Nat → Option (Nat × Value)
  | [], _ => none
  | e :: r, i => if x = e.1 then some (i, e.2.1) else hit x r (i + 1)

theorem run_asking (L : KeyLaw P K kv) (x : κ) (w : World) : ∀ (E : List (κ × Value × Nat)) (i : Nat), (Instr.findAsking K (kv x) (E.map (ent kv)) i).run P w = .ok (hit x E i) w
  | [], i => rfl
  | e :: r, i => by
    simp only [List.map_cons, Instr.findAsking, Sem.run_bind, ent, L.eq, Result.andThen, hit]
    by_cases h : x = e.1
    · simp only [h, decide_true, if_true]; rfl
    · simp only [h, decide_false, if_false, Bool.false_eq_true]; exact run_asking L x w r (i + 1)
theorem now_some {d : TypeDesc} (h : ∀ x y : κ, Instr.sameNow d (kv x) (kv y) = some (decide (x = y))) (x : κ) : ∀ (E : List (κ × Value × Nat)) (i : Nat), Instr.findNow d (kv x) (E.map (ent kv)) i = some (hit x E i)
  | [], i => rfl
  | e :: r, i => by
    simp only [List.map_cons, Instr.findNow, ent, h, hit]
    by_cases hx : x = e.1
    · simp [hx]
    · simp only [hx, decide_false, if_false]; exact now_some h x r (i + 1)
theorem run_find (L : KeyLaw P K kv) (x : κ) (w : World) (E : List (κ × Value × Nat)) : (Instr.findKey K (kv x) (E.map (ent kv))).run P w = .ok (hit x E 0) w := by
  obtain ⟨d, hd, hn⟩ := L.now
  simp only [Instr.findKey, Sem.run_bind, run_underlying hd, Result.andThen]
  rcases hn with hn | hn
  · cases E with
    | nil => rfl
    | cons e r =>
      have : Instr.findNow d (kv x) ((e :: r).map (ent kv)) 0 = none := by simp [Instr.findNow, ent, hn]
      rw [this]; exact run_asking L x w _ 0
  · rw [now_some hn]; rfl

/-- What a list of entries holds at a key. -/
def look (E : List (κ × Value × Nat)) (x : κ) : Option Value := (E.find? (fun e => x = e.1)).map (·.2.1)
theorem hit_look (x : κ) : ∀ (E : List (κ × Value × Nat)) (i : Nat), (hit x E i).map (·.2) = look E x
  | [], _ => rfl
  | e :: r, i => by
    simp only [hit, look, List.find?_cons]
    by_cases h : x = e.1
    · simp [h]
    · simp only [h, if_false, decide_false]; exact hit_look x r (i + 1)
theorem hit_some {x : κ} : ∀ {E : List (κ × Value × Nat)} {i j : Nat} {v : Value}, hit x E i = some (j, v) → ∃ k e, j = i + k ∧ E[k]? = some e ∧ e.1 = x ∧ e.2.1 = v
  | [], _, _, _, h => by cases h
  | e :: r, i, j, v, h => by
    simp only [hit] at h
    by_cases hx : x = e.1
    · simp only [hx, if_true, Option.some.injEq, Prod.mk.injEq] at h
      exact ⟨0, e, h.1.symm, rfl, hx.symm, h.2⟩
    · simp only [hx, if_false] at h
      obtain ⟨k, e', hj, he, h1, h2⟩ := hit_some h
      exact ⟨k + 1, e', by omega, by simpa using he, h1, h2⟩
theorem hit_none {x : κ} : ∀ {E : List (κ × Value × Nat)} {i : Nat}, hit x E i = none → ∀ e ∈ E, e.1 ≠ x
  | [], _, _ => by simp
  | e :: r, i, h => by
    simp only [hit] at h
    by_cases hx : x = e.1
    · simp [hx] at h
    · simp only [hx, if_false] at h
      intro e' he
      rcases List.mem_cons.1 he with rfl | he
      · exact fun q => hx q.symm
      · exact hit_none h e' he
theorem look_mem {E : List (κ × Value × Nat)} (hn : (E.map (·.1)).Nodup) {e : κ × Value × Nat} (he : e ∈ E) : look E e.1 = some e.2.1 := by
  induction E with
  | nil => cases he
  | cons a r ih =>
    simp only [List.map_cons, List.nodup_cons] at hn
    simp only [look, List.find?_cons]
    rcases List.mem_cons.1 he with rfl | he
    · simp
    · have : e.1 ≠ a.1 := fun q => hn.1 (q ▸ List.mem_map.2 ⟨e, he, rfl⟩)
      simp only [this, decide_false]; exact ih hn.2 he
theorem look_none {E : List (κ × Value × Nat)} {x : κ} (h : ∀ e ∈ E, e.1 ≠ x) : look E x = none := by
  simp only [look, Option.map_eq_none_iff, List.find?_eq_none]
  intro e he; simpa using fun q => h e he q.symm
theorem look_some {E : List (κ × Value × Nat)} {x : κ} {v : Value} (h : look E x = some v) : ∃ e ∈ E, e.1 = x ∧ e.2.1 = v := by
  simp only [look, Option.map_eq_some_iff] at h
  obtain ⟨e, he, hv⟩ := h
  have h1 : decide (x = e.1) = true := List.find?_some (p := fun e : κ × Value × Nat => decide (x = e.1)) he
  exact ⟨e, List.mem_of_find?_eq_some he, (of_decide_eq_true h1).symm, hv⟩

/-- A block that is a map with these entries. -/
structure MapIs (kv : κ → Value) (w : World) (b : Nat) (E : List (κ × Value × Nat)) (clock : Nat) : Prop where
  heap : w.heap[b]? = some (.map (E.map (ent kv)).toArray clock)
  keys : (E.map (·.1)).Nodup
  born : (E.map (·.2.2)).Nodup
  lt : ∀ e ∈ E, e.2.2 < clock
/-- A block that is a map, as a function. -/
def MapF (kv : κ → Value) (w : World) (b : Nat) (f : κ → Option Value) : Prop := ∃ E clock, MapIs kv w b E clock ∧ ∀ x, f x = look E x

def upd (f : κ → Option Value) (x : κ) (v : Option Value) : κ → Option Value := fun y => if y = x then v else f y

theorem MapF.lt {w : World} {b : Nat} {f : κ → Option Value} (h : MapF kv w b f) : b < w.heap.size := by
  obtain ⟨E, c, hm, _⟩ := h; exact lt_of_block hm.heap
theorem MapF.keep {w w' : World} {S : Nat → Prop} {b : Nat} {f : κ → Option Value} (h : MapF kv w b f) (ho : Only S w w') (hs : ¬ S b) : MapF kv w' b f := by
  obtain ⟨E, c, hm, hf⟩ := h; exact ⟨E, c, ⟨ho.heap hm.heap hs, hm.keys, hm.born, hm.lt⟩, hf⟩
theorem MapF.made (kv : κ → Value) (w : World) : MapF kv (w.alloc (.map #[] 0)) w.heap.size (fun _ => none) :=
  ⟨[], 0, ⟨by simpa using heap_alloc_new w _, by simp, by simp, by simp⟩, fun _ => rfl⟩
theorem MapF.congr {w : World} {b : Nat} {f g : κ → Option Value} (h : MapF kv w b f) (e : ∀ x, f x = g x) : MapF kv w b g := by
  obtain ⟨E, c, hm, hf⟩ := h; exact ⟨E, c, hm, fun x => (e x).symm.trans (hf x)⟩

theorem run_check_map {T e : TypeId} (w : World) (L : KeyLaw P K kv) (x : κ) (em : Bool) : (Instr.checkKey em 10000 K (kv x)).run P w = .ok () w := L.check em x w

theorem MapF.look {T el : TypeId} {w : World} {b : Nat} {f : κ → Option Value} (h : MapF kv w b f) (L : KeyLaw P K kv) (hT : P.underlying T = some (.map K el)) {z : Value} (hz : (zeroValue el).run P w = .ok z w) (x : κ) :
    (Instr.lookup T (.map (some b)) (kv x) false).run P w = .ok ((f x).getD z) w := by
  obtain ⟨E, c, hm, hf⟩ := h
  have hh := hit_look x E 0
  rw [← hf] at hh
  simp only [Instr.lookup, Sem.run_bind, run_underlying hT, Result.andThen, MapKept.run_getObj_map hm.heap, Sem.run_pure, L.check, run_find L]
  cases hx : hit x E 0 with
  | none => rw [hx] at hh; simp only [Option.map_none] at hh; simp [← hh, hz]
  | some p => rw [hx] at hh; simp only [Option.map_some] at hh; simp [← hh]
theorem MapF.lookOk {T el : TypeId} {w : World} {b : Nat} {f : κ → Option Value} (h : MapF kv w b f) (L : KeyLaw P K kv) (hT : P.underlying T = some (.map K el)) {z : Value} (hz : (zeroValue el).run P w = .ok z w) (x : κ) :
    (Instr.lookup T (.map (some b)) (kv x) true).run P w = .ok (.tuple #[(f x).getD z, .bool (f x).isSome]) w := by
  obtain ⟨E, c, hm, hf⟩ := h
  have hh := hit_look x E 0
  rw [← hf] at hh
  simp only [Instr.lookup, Sem.run_bind, run_underlying hT, Result.andThen, MapKept.run_getObj_map hm.heap, Sem.run_pure, L.check, run_find L]
  cases hx : hit x E 0 with
  | none => rw [hx] at hh; simp only [Option.map_none] at hh; simp [← hh, hz]
  | some p => rw [hx] at hh; simp only [Option.map_some] at hh; simp [← hh]

theorem putObj_only (w : World) (b : Nat) (o : Obj) : Only (fun k => k = b) w (w.putObj b o) :=
  ⟨rfl, rfl, rfl, by simp [World.putObj], fun k _ hn => World.putObj_heap_other hn⟩
theorem putObj_at {w : World} {b : Nat} {o o' : Obj} (h : w.heap[b]? = some o) : (w.putObj b o').heap[b]? = some o' := by
  have := lt_of_block h; simp [World.putObj, this]

theorem MapF.update {T el : TypeId} {w : World} {b : Nat} {f : κ → Option Value} (h : MapF kv w b f) (L : KeyLaw P K kv) (hT : P.underlying T = some (.map K el)) (x : κ) (v : Value) :
    ∃ o, (Instr.mapUpdate T (.map (some b)) (kv x) v).run P w = .ok () (w.putObj b o) ∧ MapF kv (w.putObj b o) b (upd f x (some v)) := by
  obtain ⟨E, c, hm, hf⟩ := h
  simp only [Instr.mapUpdate, Sem.run_bind, run_underlying hT, Result.andThen, MapKept.run_getObj_map hm.heap, L.check, run_find L]
  cases hx : hit x E 0 with
  | none =>
    refine ⟨_, MapKept.run_setObj_map _ hm.heap, E ++ [(x, v, c)], c + 1, ⟨?_, ?_, ?_, ?_⟩, ?_⟩
    · have := putObj_at (o' := .map ((E.map (ent kv)).toArray.push { key := kv x, val := v, born := c }) (c + 1)) hm.heap
      rw [this]; simp [ent]
    · have hne := hit_none hx
      simp only [List.map_append, List.map_cons, List.map_nil, List.nodup_append]
      refine ⟨hm.keys, by simp, fun a ha b' hb' => ?_⟩
      simp only [List.mem_singleton] at hb'; subst hb'
      obtain ⟨e, he, rfl⟩ := List.mem_map.1 ha
      exact hne e he
    · simp only [List.map_append, List.map_cons, List.map_nil, List.nodup_append]
      refine ⟨hm.born, by simp, fun a ha b' hb' => ?_⟩
      simp only [List.mem_singleton] at hb'; subst hb'
      obtain ⟨e, he, rfl⟩ := List.mem_map.1 ha
      exact Nat.ne_of_lt (hm.lt e he)
    · intro e he
      rcases List.mem_append.1 he with he | he
      · exact Nat.lt_succ_of_lt (hm.lt e he)
      · simp only [List.mem_singleton] at he; subst he; exact Nat.lt_succ_self _
    · intro y
      have hne := hit_none hx
      simp only [upd, Go.Proofs.Ytcephfmafmmilaa.look, List.find?_append]
      by_cases hy : y = x
      · subst hy
        have : E.find? (fun e => decide (y = e.1)) = none := by simp only [List.find?_eq_none]; intro e he; simpa using fun q => hne e he q.symm
        simp [this]
      · simp only [hy, if_false, hf, Go.Proofs.Ytcephfmafmmilaa.look]
        cases hq : E.find? (fun e => decide (y = e.1)) with
        | none => simp [hy]
        | some q => simp
  | some p =>
    obtain ⟨i, v0⟩ := p
    obtain ⟨k, e0, hk, he0, hex, _⟩ := hit_some hx
    obtain rfl : i = k := by omega
    have hget : (((E.map (ent kv)).toArray[i]?).map (·.key)).getD (kv x) = kv x := by simp [he0, ent, hex]
    have hstay : (Instr.keyThatStays (kv x) (kv x)).run P w = .ok (kv x) w := by simp [Instr.keyThatStays, L.bits]
    simp only [hget, Sem.run_bind, hstay, Result.andThen]
    refine ⟨_, MapKept.run_setObj_map _ hm.heap, E.modify i (fun e => (x, v, e.2.2)), c, ⟨?_, ?_, ?_, ?_⟩, ?_⟩
    · rw [putObj_at hm.heap]
      congr 2
      apply Array.ext_getElem?
      intro j
      simp only [Array.getElem?_modify, List.getElem?_toArray, List.getElem?_map, List.getElem?_modify]
      by_cases hij : i = j
      · subst hij; simp [he0, ent]
      · simp [hij]
    · have : (E.modify i (fun e => (x, v, e.2.2))).map (·.1) = E.map (·.1) := by
        apply List.ext_getElem?; intro j
        simp only [List.getElem?_map, List.getElem?_modify]
        by_cases hij : i = j
        · subst hij; simp [he0, hex]
        · simp [hij]
      rw [this]; exact hm.keys
    · have : (E.modify i (fun e => (x, v, e.2.2))).map (·.2.2) = E.map (·.2.2) := by
        apply List.ext_getElem?; intro j
        simp only [List.getElem?_map, List.getElem?_modify]
        by_cases hij : i = j
        · subst hij; simp [he0]
        · simp [hij]
      rw [this]; exact hm.born
    · intro e he
      obtain ⟨j, hj⟩ := List.getElem?_of_mem he
      simp only [List.getElem?_modify] at hj
      by_cases hij : i = j
      · subst hij; simp [he0] at hj; subst hj; exact hm.lt e0 (List.mem_of_getElem? he0)
      · simp [hij] at hj; exact hm.lt e (List.mem_of_getElem? hj)
    · intro y
      have hkeys : ((E.modify i (fun e => (x, v, e.2.2))).map (·.1)).Nodup := by
        have : (E.modify i (fun e => (x, v, e.2.2))).map (·.1) = E.map (·.1) := by
          apply List.ext_getElem?; intro j
          simp only [List.getElem?_map, List.getElem?_modify]
          by_cases hij : i = j
          · subst hij; simp [he0, hex]
          · simp [hij]
        rw [this]; exact hm.keys
      by_cases hy : y = x
      · subst hy
        have hmem : (y, v, e0.2.2) ∈ E.modify i (fun e => (y, v, e.2.2)) := List.mem_of_getElem? (i := i) (by simp [List.getElem?_modify, he0])
        simp only [upd, if_true]; exact (look_mem hkeys hmem).symm
      · simp only [upd, hy, if_false, hf]
        cases hl : Go.Proofs.Ytcephfmafmmilaa.look E y with
        | some u =>
          obtain ⟨e, he, hey, heu⟩ := look_some hl
          obtain ⟨j, hj⟩ := List.getElem?_of_mem he
          have hij : i ≠ j := fun q => by subst q; rw [he0] at hj; cases hj; exact hy (hey.symm.trans hex)
          have hmem : e ∈ E.modify i (fun e => (x, v, e.2.2)) := List.mem_of_getElem? (i := j) (by simp [List.getElem?_modify, hij, hj])
          have := look_mem hkeys hmem
          rw [hey, heu] at this; exact this.symm
        | none =>
          symm; apply look_none
          intro e he q
          obtain ⟨j, hj⟩ := List.getElem?_of_mem he
          simp only [List.getElem?_modify] at hj
          by_cases hij : i = j
          · subst hij; simp [he0] at hj; subst hj; exact hy q.symm
          · simp [hij] at hj
            have := look_mem hm.keys (List.mem_of_getElem? hj)
            rw [q, hl] at this; cases this

theorem map_erase {α β : Type} (f : α → β) : ∀ (l : List α) (i : Nat), (l.map f).eraseIdx i = (l.eraseIdx i).map f
  | [], i => by simp
  | a :: l, 0 => by simp
  | a :: l, i + 1 => by simp [map_erase f l i]
theorem erase_entries (E : List (κ × Value × Nat)) (i : Nat) : ((E.map (ent kv)).toArray.eraseIdxIfInBounds i) = ((E.eraseIdx i).map (ent kv)).toArray := by
  unfold Array.eraseIdxIfInBounds
  by_cases h : i < E.length
  · simp [h, map_erase]
  · simp [h, List.eraseIdx_of_length_le (Nat.le_of_not_lt h)]

theorem MapIs.erase {w w' : World} {b : Nat} {E : List (κ × Value × Nat)} {c : Nat} (hm : MapIs kv w b E c) (i : Nat) (hw : w'.heap[b]? = some (.map ((E.eraseIdx i).map (ent kv)).toArray c)) : MapIs kv w' b (E.eraseIdx i) c :=
  ⟨hw, ((List.eraseIdx_sublist E i).map _).nodup hm.keys, ((List.eraseIdx_sublist E i).map _).nodup hm.born, fun e he => hm.lt e ((List.eraseIdx_sublist E i).subset he)⟩

theorem look_erase {E : List (κ × Value × Nat)} (hn : (E.map (·.1)).Nodup) {i : Nat} {e0 : κ × Value × Nat} (h0 : E[i]? = some e0) (y : κ) : look (E.eraseIdx i) y = if y = e0.1 then none else look E y := by
  have hn' : ((E.eraseIdx i).map (·.1)).Nodup := ((List.eraseIdx_sublist E i).map _).nodup hn
  by_cases hy : y = e0.1
  · subst hy
    simp only [if_true]
    apply look_none
    intro e he q
    obtain ⟨j, hj⟩ := List.getElem?_of_mem he
    rw [List.getElem?_eraseIdx] at hj
    have inj : ∀ (a b' : Nat) (ea eb : κ × Value × Nat), E[a]? = some ea → E[b']? = some eb → ea.1 = eb.1 → a = b' := fun a b' ea eb ha hb hab => by
      have h1 : (E.map (·.1))[a]? = (E.map (·.1))[b']? := by simp [ha, hb, hab]
      exact (List.getElem?_inj (by simpa using (List.getElem?_eq_some_iff.1 ha).1) hn).1 h1
    split at hj
    · have := inj j i e e0 hj h0 q; omega
    · have := inj (j + 1) i e e0 hj h0 q; omega
  · simp only [hy, if_false]
    cases hl : look E y with
    | some u =>
      obtain ⟨e, he, hey, heu⟩ := look_some hl
      have hmem : e ∈ E.eraseIdx i := by
        obtain ⟨j, hj⟩ := List.getElem?_of_mem he
        have hij : i ≠ j := fun q => by subst q; rw [h0] at hj; cases hj; exact hy hey.symm
        rw [List.mem_eraseIdx_iff_getElem?]
        exact ⟨j, fun q => hij q.symm, hj⟩
      have := look_mem hn' hmem
      rw [hey, heu] at this; exact this
    | none =>
      apply look_none
      intro e he q
      have := look_mem hn ((List.eraseIdx_sublist E i).subset he)
      rw [q, hl] at this; cases this

theorem MapF.delete {T el ty : TypeId} {w : World} {b : Nat} {f : κ → Option Value} (h : MapF kv w b f) (L : KeyLaw P K kv) (hT : P.underlying T = some (.map K el)) (x : κ) :
    ∃ o, (Builtin.delete_ #[T, K] ty #[.map (some b), kv x]).run P w = .ok (.tuple #[]) (w.putObj b o) ∧ MapF kv (w.putObj b o) b (upd f x none) := by
  obtain ⟨E, c, hm, hf⟩ := h
  simp only [Builtin.delete_, Sem.run_bind, run_underlying hT, Result.andThen, MapKept.run_getObj_map hm.heap, L.check, run_find L, List.getElem?_toArray, List.getElem?_cons_zero, List.getElem?_cons_succ]
  cases hx : hit x E 0 with
  | none =>
    refine ⟨.map (E.map (ent kv)).toArray c, by simp [MapKept.run_setObj_map _ hm.heap, Result.andThen]; rfl, E, c, ⟨putObj_at hm.heap, hm.keys, hm.born, hm.lt⟩, fun y => ?_⟩
    by_cases hy : y = x
    · subst hy; simp only [upd, if_true]; exact (look_none (hit_none hx)).symm
    · simp only [upd, hy, if_false, hf]
  | some p =>
    obtain ⟨i, v0⟩ := p
    obtain ⟨k, e0, hk, he0, hex, _⟩ := hit_some hx
    obtain rfl : i = k := by omega
    refine ⟨.map ((E.eraseIdx i).map (ent kv)).toArray c, by simp [map_erase, MapKept.run_setObj_map _ hm.heap, Result.andThen]; rfl, E.eraseIdx i, c, hm.erase i (putObj_at hm.heap), fun y => ?_⟩
    rw [look_erase hm.keys he0, hex]
    simp only [upd, hf]

theorem MapF.len {T el ty : TypeId} {w : World} {b : Nat} {f : κ → Option Value} (h : MapF kv w b f) (hT : P.underlying T = some (.map K el)) :
    ∃ n : Nat, (Builtin.len_ #[T] ty #[.map (some b)]).run P w = .ok (goInt n) w ∧ (n = 0 ↔ ∀ x, f x = none) := by
  obtain ⟨E, c, hm, hf⟩ := h
  refine ⟨E.length, ?_, ?_⟩
  · simp [Builtin.len_, run_underlying hT, MapKept.run_getObj_map hm.heap]
  · constructor
    · intro h0 x; rw [hf, List.eq_nil_of_length_eq_zero h0]; rfl
    · intro h0
      cases E with
      | nil => rfl
      | cons e r => have := look_mem hm.keys (e := e) (by simp); rw [← hf, h0] at this; cases this

/-- A range over a map that is under way: block r is the iterator; 'left': what is still to come; at most m entries are. -/
def RangeF (kv : κ → Value) (w : World) (b r : Nat) (f : κ → Option Value) (left : κ → Prop) (m : Nat) : Prop :=
  ∃ E clock since seen last, MapIs kv w b E clock ∧ (∀ x, f x = look E x) ∧ w.heap[r]? = some (.mapIter (some b) since seen last) ∧ (∀ e ∈ E, e.2.2 < since) ∧ since ≤ last ∧ since ≤ clock ∧
    (∀ x, left x ↔ ∃ e ∈ E, e.1 = x ∧ seen.contains e.2.2 = false) ∧ m = (leftOf (E.map (ent kv)).toArray seen).size

theorem RangeF.map {w : World} {b r : Nat} {f : κ → Option Value} {left : κ → Prop} {m : Nat} (h : RangeF kv w b r f left m) : MapF kv w b f := by
  obtain ⟨E, c, s, se, l, hm, hf, _⟩ := h; exact ⟨E, c, hm, hf⟩
theorem RangeF.keep {w w' : World} {S : Nat → Prop} {b r : Nat} {f : κ → Option Value} {left : κ → Prop} {m : Nat} (h : RangeF kv w b r f left m) (ho : Only S w w') (hb : ¬ S b) (hr : ¬ S r) : RangeF kv w' b r f left m := by
  obtain ⟨E, c, s, se, l, hm, hf, hi, rest⟩ := h
  exact ⟨E, c, s, se, l, ⟨ho.heap hm.heap hb, hm.keys, hm.born, hm.lt⟩, hf, ho.heap hi hr, rest⟩
theorem RangeF.ne {w : World} {b r : Nat} {f : κ → Option Value} {left : κ → Prop} {m : Nat} (h : RangeF kv w b r f left m) : b ≠ r := by
  obtain ⟨E, c, s, se, l, hm, hf, hi, _⟩ := h
  intro e; subst e; rw [hm.heap] at hi; cases hi
theorem RangeF.lt {w : World} {b r : Nat} {f : κ → Option Value} {left : κ → Prop} {m : Nat} (h : RangeF kv w b r f left m) : r < w.heap.size := by
  obtain ⟨E, c, s, se, l, hm, hf, hi, _⟩ := h; exact lt_of_block hi

theorem MapF.range {T el : TypeId} {w : World} {b : Nat} {f : κ → Option Value} (h : MapF kv w b f) (hT : P.underlying T = some (.map K el)) :
    ∃ o, (Instr.range T (.map (some b))).run P w = .ok (.pointer (some ⟨w.heap.size, 0, none⟩)) (w.alloc o) ∧ ∃ m, RangeF kv (w.alloc o) b w.heap.size f (fun x => f x ≠ none) m := by
  obtain ⟨E, c, hm, hf⟩ := h
  refine ⟨_, run_range_map w T K el b _ c hT hm.heap, _, E, c, c, #[], c, ⟨(Below.heap_alloc w _ b (lt_of_block hm.heap)).trans hm.heap, hm.keys, hm.born, hm.lt⟩, hf, heap_alloc_new w _, hm.lt, Nat.le_refl _, Nat.le_refl _, fun x => ?_, rfl⟩
  show f x ≠ none ↔ _
  rw [hf]
  constructor
  · intro hne
    cases hl : Go.Proofs.Ytcephfmafmmilaa.look E x with
    | none => exact absurd hl hne
    | some v => obtain ⟨e, he, hx, _⟩ := look_some hl; exact ⟨e, he, hx, by simp⟩
  · rintro ⟨e, he, rfl, _⟩; rw [look_mem hm.keys he]; simp

theorem RangeF.next {w : World} {b r : Nat} {f : κ → Option Value} {left : κ → Prop} {m : Nat} (h : RangeF kv w b r f left m) (ty : TypeId) :
    ((∀ x, ¬ left x) ∧ (Instr.next (.pointer (some ⟨r, 0, none⟩)) false ty).run P w = .ok (.tuple #[.bool false]) w) ∨
    ∃ x v w' m', left x ∧ f x = some v ∧ (Instr.next (.pointer (some ⟨r, 0, none⟩)) false ty).run P w = .ok (.tuple #[.bool true, kv x, v]) w' ∧ Only (fun k => k = r) w w' ∧ w'.heap.size = w.heap.size ∧
      RangeF kv w' b r f (fun y => left y ∧ y ≠ x) m' ∧ m' < m ∧ (Instr.entry (.pointer (some ⟨r, 0, none⟩))).run P w' = .ok (.tuple #[kv x, v]) w' := by
  have hne := h.ne
  obtain ⟨E, c, s, se, l, hm, hf, hi, hb, hsl, hsc, hleft, rfl⟩ := h
  have hmem : ∀ x ∈ ((E.map (ent kv)).toArray).toList, x.born < s := by
    intro x hx; simp only [List.mem_map] at hx; obtain ⟨e, he, rfl⟩ := hx; exact hb e he
  rcases run_next_at (P := P) w ty r b s l se (E.map (ent kv)).toArray c hi hm.heap hmem hsl with ⟨h0, hrun⟩ | ⟨e, he, w1, hw1, hrun⟩
  · refine .inl ⟨fun x hx => ?_, hrun⟩
    obtain ⟨e, he, rfl, hse⟩ := (hleft x).1 hx
    have := all_seen _ _ h0 (ent kv e) (List.mem_map.2 ⟨_, he, rfl⟩)
    simp only [ent] at this; rw [this] at hse; cases hse
  · obtain ⟨hein, hes⟩ := mem_left he
    simp only [List.mem_map] at hein
    obtain ⟨e0, he0, rfl⟩ := hein
    refine .inr ⟨e0.1, e0.2.1, _, (leftOf (E.map (ent kv)).toArray (se.push e0.2.2)).size, (hleft _).2 ⟨e0, he0, rfl, hes⟩, by rw [hf]; exact look_mem hm.keys he0, hrun, ?_, ?_, ?_, ?_, ?_⟩
    · rcases hw1 with rfl | rfl
      · exact putObj_only _ r _
      · exact ((Only.refl (fun k => k = r) w).drew).trans (putObj_only w.drew r _)
    · rcases hw1 with rfl | rfl <;> simp [ChangeMaps.setBlock] <;> rfl
    · have hbs : (ChangeMaps.setBlock w1 r (.mapIter (some b) s (se.push e0.2.2) c)).heap[b]? = w.heap[b]? := by
        rcases hw1 with rfl | rfl
        · exact World.putObj_heap_other hne
        · exact World.putObj_heap_other (w := w.drew) hne
      have hrs : (ChangeMaps.setBlock w1 r (.mapIter (some b) s (se.push e0.2.2) c)).heap[r]? = some (.mapIter (some b) s (se.push e0.2.2) c) := by
        rcases hw1 with rfl | rfl
        · exact putObj_at hi
        · exact putObj_at (w := w.drew) hi
      refine ⟨E, c, s, se.push e0.2.2, c, ⟨hbs.trans hm.heap, hm.keys, hm.born, hm.lt⟩, hf, hrs, hb, hsc, hsc, fun y => ?_, rfl⟩
      constructor
      · rintro ⟨hy, hyx⟩
        obtain ⟨e, he, rfl, hse⟩ := (hleft y).1 hy
        refine ⟨e, he, rfl, ?_⟩
        rw [contains_push, hse, Bool.false_or]
        have : e.2.2 ≠ e0.2.2 := fun q => hyx (by
          have : e = e0 := by
            have hinj : ∀ a ∈ E, ∀ b' ∈ E, a.2.2 = b'.2.2 → a = b' := fun a ha b' hb' hab => by
              obtain ⟨i, hi⟩ := List.getElem?_of_mem ha
              obtain ⟨j, hj⟩ := List.getElem?_of_mem hb'
              have h1 : (E.map (·.2.2))[i]? = (E.map (·.2.2))[j]? := by simp [hi, hj, hab]
              have := (List.getElem?_inj (by simpa using (List.getElem?_eq_some_iff.1 hi).1) hm.born).1 h1
              subst this; rw [hi] at hj; exact Option.some.inj hj
            exact hinj e he e0 he0 q
          rw [this])
        simpa using this
      · rintro ⟨e, he, rfl, hse⟩
        rw [contains_push, Bool.or_eq_false_iff] at hse
        refine ⟨(hleft _).2 ⟨e, he, rfl, hse.1⟩, fun q => ?_⟩
        have : e = e0 := by
          obtain ⟨i, hi⟩ := List.getElem?_of_mem he
          obtain ⟨j, hj⟩ := List.getElem?_of_mem he0
          have h1 : (E.map (·.1))[i]? = (E.map (·.1))[j]? := by simp [hi, hj, q]
          have := (List.getElem?_inj (by simpa using (List.getElem?_eq_some_iff.1 hi).1) hm.keys).1 h1
          subst this; rw [hi] at hj; exact Option.some.inj hj
        subst this; simp at hse
    · exact left_shrinks _ _ _ he
    · have hbs : (ChangeMaps.setBlock w1 r (.mapIter (some b) s (se.push e0.2.2) c)).heap[b]? = w.heap[b]? := by
        rcases hw1 with rfl | rfl
        · exact World.putObj_heap_other hne
        · exact World.putObj_heap_other (w := w.drew) hne
      have hrs : (ChangeMaps.setBlock w1 r (.mapIter (some b) s (se.push e0.2.2) c)).heap[r]? = some (.mapIter (some b) s (se.push e0.2.2) c) := by
        rcases hw1 with rfl | rfl
        · exact putObj_at hi
        · exact putObj_at (w := w.drew) hi
      exact run_entry_at _ r b s se _ c (ent kv e0) hrs (hbs.trans hm.heap) (List.mem_map.2 ⟨_, he0, rfl⟩) (by simpa [ent, Function.comp_def] using hm.born)

theorem RangeF.delete {T el ty : TypeId} {w : World} {b r : Nat} {f : κ → Option Value} {left : κ → Prop} {m : Nat} (h : RangeF kv w b r f left m) (L : KeyLaw P K kv) (hT : P.underlying T = some (.map K el)) (x : κ) :
    ∃ o m', (Builtin.delete_ #[T, K] ty #[.map (some b), kv x]).run P w = .ok (.tuple #[]) (w.putObj b o) ∧ RangeF kv (w.putObj b o) b r (upd f x none) (fun y => left y ∧ y ≠ x) m' ∧ m' ≤ m := by
  have hne := h.ne
  obtain ⟨E, c, s, se, l, hm, hf, hi, hb, hsl, hsc, hleft, rfl⟩ := h
  simp only [Builtin.delete_, Sem.run_bind, run_underlying hT, Result.andThen, MapKept.run_getObj_map hm.heap, L.check, run_find L, List.getElem?_toArray, List.getElem?_cons_zero, List.getElem?_cons_succ]
  cases hx : hit x E 0 with
  | none =>
    refine ⟨.map (E.map (ent kv)).toArray c, _, by simp [MapKept.run_setObj_map _ hm.heap, Result.andThen]; rfl, ⟨E, c, s, se, l, ⟨putObj_at hm.heap, hm.keys, hm.born, hm.lt⟩, fun y => ?_, (World.putObj_heap_other (Ne.symm hne)).trans hi, hb, hsl, hsc, fun y => ?_, rfl⟩, Nat.le_refl _⟩
    · by_cases hy : y = x
      · subst hy; simp only [upd, if_true]; exact (look_none (hit_none hx)).symm
      · simp only [upd, hy, if_false, hf]
    · show left y ∧ y ≠ x ↔ _
      rw [hleft]
      constructor
      · rintro ⟨h1, _⟩; exact h1
      · rintro ⟨e, he, rfl, hse⟩; exact ⟨⟨e, he, rfl, hse⟩, hit_none hx e he⟩
  | some p =>
    obtain ⟨i, v0⟩ := p
    obtain ⟨k, e0, hk, he0, hex, _⟩ := hit_some hx
    obtain rfl : i = k := by omega
    refine ⟨.map ((E.eraseIdx i).map (ent kv)).toArray c, _, by simp [map_erase, MapKept.run_setObj_map _ hm.heap, Result.andThen]; rfl, ⟨E.eraseIdx i, c, s, se, l, hm.erase i (putObj_at hm.heap), fun y => ?_, (World.putObj_heap_other (Ne.symm hne)).trans hi, fun e he => hb e ((List.eraseIdx_sublist E i).subset he), hsl, hsc, fun y => ?_, rfl⟩, ?_⟩
    · rw [look_erase hm.keys he0, hex]; simp only [upd, hf]
    · show left y ∧ y ≠ x ↔ _
      rw [hleft]
      constructor
      · rintro ⟨⟨e, he, rfl, hse⟩, hy⟩
        refine ⟨e, ?_, rfl, hse⟩
        obtain ⟨j, hj⟩ := List.getElem?_of_mem he
        rw [List.mem_eraseIdx_iff_getElem?]
        exact ⟨j, fun q => by subst q; rw [he0] at hj; cases hj; exact hy hex, hj⟩
      · rintro ⟨e, he, rfl, hse⟩
        refine ⟨⟨e, (List.eraseIdx_sublist E i).subset he, rfl, hse⟩, fun q => ?_⟩
        have h1 := look_mem (((List.eraseIdx_sublist E i).map _).nodup hm.keys) he
        rw [look_erase hm.keys he0, hex, if_pos q] at h1; cases h1
    · unfold leftOf
      have hs : ((E.eraseIdx i).map (ent kv)).Sublist (E.map (ent kv)) := (List.eraseIdx_sublist E i).map _
      have := (hs.filter (fun e => !se.contains e.born)).length_le
      simpa using this
/-- How many entries are still to come: a loop's measure. -/
def leftCount (w : World) (b r : Nat) : Nat := match w.heap[b]?, w.heap[r]? with
  | some (.map es _), some (.mapIter _ _ seen _) => (leftOf es seen).size
  | _, _ => 0
theorem RangeF.count {w : World} {b r : Nat} {f : κ → Option Value} {left : κ → Prop} {m : Nat} (h : RangeF kv w b r f left m) : leftCount w b r = m := by
  obtain ⟨E, c, s, se, l, hm, hf, hi, _, _, _, _, rfl⟩ := h
  simp [leftCount, hm.heap, hi]
end

end Go.Proofs.Ytcephfmafmmilaa
