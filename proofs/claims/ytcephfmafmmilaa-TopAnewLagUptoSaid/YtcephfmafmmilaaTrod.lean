/-
  An argument that reads as data holds a value of its type's shape.
-/
import Derived.Test.YtcephfmafmmilaaKit
import Derived.Test.YtcephfmafmmilaaRows
import Derived.ChangeArms
import Derived.DataReads
import Derived.ChangeOld
namespace Go.Proofs.Ytcephfmafmmilaa
open Go.RowKit

mutual
/-- The shape of a type. -/
inductive HasSh (P : Program) : TypeId → Sh → Prop where
  | bool {t : TypeId} : P.underlying t = some .bool → HasSh P t .bool
  | int {t : TypeId} {k : IntKind} : P.underlying t = some (.int k) → HasSh P t (.num k)
  | text {t : TypeId} : P.underlying t = some .string → HasSh P t .text
  | list {t e : TypeId} {s : Sh} : P.underlying t = some (.slice e) → HasSh P e s → P.cellsOf e = s.size → 0 < s.size → HasSh P t (.list s)
  | agg {t : TypeId} {fs : Array Field} {ss : List Sh} : P.underlying t = some (.struct fs) → HasFs P 0 fs.toList ss → P.cellsOf t = Sh.sizes ss → HasSh P t (.agg ss)
inductive HasFs (P : Program) : Nat → List Field → List Sh → Prop where
  | nil {n : Nat} : HasFs P n [] []
  | cons {n : Nat} {f : Field} {fs : List Field} {s : Sh} {ss : List Sh} : f.offset = n → HasSh P f.type s → P.cellsOf f.type = s.size → HasFs P (n + s.size) fs ss → HasFs P n (f :: fs) (s :: ss)
end

/-- How much a reading holds. -/
theorem bulkAll_map {H : Type} (l : List (DataW H × List MemPlace)) (N : List (List Int × List ByteArray)) (h : ∀ (i : Nat) (x : DataW H × List MemPlace), l[i]? = some x → ∃ y : List Int × List ByteArray, N[i]? = some y ∧ y.1.length + y.2.length ≤ Rows.uptoBulk x.1) (hl : N.length = l.length) :
    (N.flatMap (·.1)).length + (N.flatMap (·.2)).length ≤ Rows.uptoBulkAll (l.map (·.1)) := by
  induction l generalizing N with
  | nil =>
    have : N = [] := List.eq_nil_of_length_eq_zero (by simpa using hl)
    subst this; simp
  | cons x l ih =>
    cases N with
    | nil => simp at hl
    | cons y N =>
      obtain ⟨y', hy, hb⟩ := h 0 x rfl
      simp only [List.getElem?_cons_zero, Option.some.injEq] at hy
      subst hy
      have := ih N (fun i x hx => h (i + 1) x (by simpa using hx)) (by simpa using hl)
      simp only [List.flatMap_cons, List.length_append, List.map_cons, Rows.uptoBulkAll]
      omega

section
variable {H : Type} {enc : TypeId × Value → H} {P : Program} {w : World} {spare : Nat → Bool} {held : Bool}

/-- What is wanted of one reading. -/
def Good (w : World) (s : Sh) (cs : List Value) (d : DataW H) : Prop := ∃ ns ss, Enc (fun k => k < w.heap.size) w s cs ns ss ∧ ns.length + ss.length ≤ Rows.uptoBulk d

theorem good_fields : ∀ (n : Nat) (fs : List Field) (ss : List Sh), HasFs P n fs ss → ∀ (cs : List Value) (xs : List (DataW H × List MemPlace)), cs.length = n + Sh.sizes ss → xs.length = fs.length →
    (∀ (i : Nat) (f : Field) (s : Sh) (x : DataW H × List MemPlace), fs[i]? = some f → ss[i]? = some s → xs[i]? = some x → Good w s ((cs.drop f.offset).take (P.cellsOf f.type)) x.1) →
    ∃ ns ts, Enc (fun k => k < w.heap.size) w (.agg ss) (cs.drop n) ns ts ∧ ns.length + ts.length ≤ Rows.uptoBulkAll (xs.map (·.1)) := by
  intro n fs
  induction fs generalizing n with
  | nil =>
    intro ss h cs xs hc hx _
    cases h
    have : xs = [] := List.eq_nil_of_length_eq_zero (by simpa using hx)
    subst this
    refine ⟨[], [], ?_, by simp⟩
    rw [List.drop_of_length_le (by simp [Sh.sizes] at hc; omega)]
    exact .nil
  | cons f fs ih =>
    intro ss h cs xs hc hx hg
    cases h with
    | @cons _ _ _ s ss ho hs hsz hr =>
      cases xs with
      | nil => simp at hx
      | cons x xs =>
        obtain ⟨n1, t1, e1, b1⟩ := hg 0 f s x rfl rfl rfl
        obtain ⟨n2, t2, e2, b2⟩ := ih (n + s.size) ss hr cs xs (by simp only [Sh.sizes] at hc; omega) (by simpa using hx) (fun i f s x h1 h2 h3 => hg (i + 1) f s x (by simpa using h1) (by simpa using h2) (by simpa using h3))
        refine ⟨n1 ++ n2, t1 ++ t2, ?_, ?_⟩
        · rw [ho, hsz] at e1
          have := Enc.cons e1 e2
          rwa [show (cs.drop n).take s.size ++ cs.drop (n + s.size) = cs.drop n by rw [← List.drop_drop, List.take_append_drop]] at this
        · simp only [List.length_append, List.map_cons, Rows.uptoBulkAll]; omega

theorem hasFs_len {P : Program} : ∀ {n : Nat} {fs : List Field} {ss : List Sh}, HasFs P n fs ss → ss.length = fs.length := by
  intro n fs
  induction fs generalizing n with
  | nil => intro ss h; cases h; rfl
  | cons f fs ih => intro ss h; cases h with | cons _ _ _ hr => simp [ih hr]
theorem hasFs_get {P : Program} : ∀ {n : Nat} {fs : List Field} {ss : List Sh}, HasFs P n fs ss → ∀ (i : Nat) (f : Field) (s : Sh), fs[i]? = some f → ss[i]? = some s → HasSh P f.type s := by
  intro n fs
  induction fs generalizing n with
  | nil => intro ss h i f s hf; simp at hf
  | cons f fs ih =>
    intro ss h i f' s' hf hs
    cases h with
    | cons _ h1 _ hr =>
      cases i with
      | zero => simp at hf hs; subst hf; subst hs; exact h1
      | succ i => exact ih hr i f' s' (by simpa using hf) (by simpa using hs)

theorem build_list {α : Type} {Q : Nat → α → Prop} : ∀ (n : Nat), (∀ i, i < n → ∃ r, Q i r) → ∃ l : List α, l.length = n ∧ ∀ (i : Nat) (r : α), l[i]? = some r → Q i r
  | 0, _ => ⟨[], rfl, fun i r h => by simp at h⟩
  | n + 1, h => by
    obtain ⟨l, hl, hq⟩ := build_list n (fun i hi => h i (by omega))
    obtain ⟨r, hr⟩ := h n (by omega)
    refine ⟨l ++ [r], by simp [hl], fun i x hx => ?_⟩
    by_cases hi : i < n
    · rw [List.getElem?_append_left (by omega)] at hx; exact hq i x hx
    · rw [List.getElem?_append_right (by omega)] at hx
      have hin : i = n := by
        have := (List.getElem?_eq_some_iff.1 hx).1
        simp at this; omega
      subst hin
      rw [hl, Nat.sub_self] at hx
      simp at hx; subst hx; exact hr

theorem good_of_trod : ∀ (fuel : Nat) (t : TypeId) (s : Sh) (cs : List Value) (x : DataW H × List MemPlace), HasSh P t s → DataW.trod enc P w 0 spare held fuel t cs = some x → Good w s cs x.1 := by
  intro fuel
  induction fuel with
  | zero => intro t s cs x _ h; simp [DataW.trod] at h
  | succ m ih =>
    intro t s cs x hs h
    cases hs with
    | bool ht =>
      obtain ⟨b, rfl, rfl⟩ := DataW.trod_bool ht h
      exact ⟨_, _, .bool b, by simp [Rows.uptoBulk]⟩
    | int ht =>
      obtain ⟨n, rfl, rfl, _⟩ := DataW.trod_int ht h
      exact ⟨_, _, .num _ n, by simp [Rows.uptoBulk]⟩
    | text ht =>
      obtain ⟨b, rfl, rfl, _⟩ := DataW.trod_string ht h
      exact ⟨_, _, .text b, by simp [Rows.uptoBulk]⟩
    | @agg _ fs ss ht hf hc =>
      obtain ⟨xs, n, hn, rfl, hcl, hxl, hx⟩ := DataW.trod_struct ht h
      obtain rfl : m = n := by omega
      obtain ⟨ns, ts, he, hb⟩ := good_fields (w := w) 0 fs.toList ss hf cs xs (by omega) (by simpa using hxl) (fun i f s x h1 h2 h3 => by
        have h4 := hx i f (by simpa using h1)
        rw [h3] at h4
        exact ih f.type s _ x (hasFs_get hf i f s h1 h2) h4)
      exact ⟨ns, ts, by simpa using he, by simp only [Rows.uptoBulk]; omega⟩
    | @list _ e s ht he hc hpos =>
      rcases DataW.trod_slice ht h with ⟨rfl, rfl⟩ | ⟨a, len, cap, elems, rest, n, hn, rfl, rfl, _, hle, hcm, hel, hx, _, _⟩
      · exact ⟨_, _, Enc.list (v := .slice none 0 0) [] ⟨none, 0, 0, rfl, by simp, Nat.le_refl _, by decide, fun h => absurd h (by decide)⟩ hpos (fun r hr => by simp at hr) (fun r hr => by simp at hr), by simp [Rows.uptoBulk]⟩
      · obtain rfl : m = n := by omega
        have each : ∀ i, i < len → ∃ r : List Value × List Int × List ByteArray, w.cells? 0 (a.add (i * P.cellsOf e)) (P.cellsOf e) = some r.1 ∧ Enc (fun k => k < w.heap.size) w s r.1 r.2.1 r.2.2 ∧
            ∀ x, elems[i]? = some x → r.2.1.length + r.2.2.length ≤ Rows.uptoBulk x.1 := fun i hi => by
          have h1 := hx i hi
          rw [List.getElem?_eq_getElem (by omega), Option.bind_eq_some_iff] at h1
          obtain ⟨ci, hci, hti⟩ := h1
          obtain ⟨ns, ts, he', hb'⟩ := ih e s ci _ he hti
          exact ⟨(ci, ns, ts), hci, he', fun x hx' => by rw [List.getElem?_eq_getElem (by omega)] at hx'; cases hx'; exact hb'⟩
        obtain ⟨rows, hrl, hrows⟩ := build_list len each
        have hlen : ∀ r, r ∈ rows → r.1.length = s.size := fun r hr => by
          obtain ⟨i, hi⟩ := List.getElem?_of_mem hr
          have := (World.cells?_some (hrows i r hi).1).2.1
          omega
        have hsl : SliceAt (fun k => k < w.heap.size) w (.slice (some a) len cap) s.size (rows.flatMap (·.1)) := by
          refine ⟨some a, len, cap, rfl, by rw [flat_length (·.1) s.size rows hlen, hrl], hle, hcm, fun h0 => ?_⟩
          have hr0 := hrows 0 _ (List.getElem?_eq_getElem (by omega))
          have hblk := World.cells?_block hr0.1 (by omega)
          have hc0 := (World.cells?_some hr0.1).2.2 0 (by omega)
          have hr0l := hlen _ (List.getElem_mem (by omega : 0 < rows.length))
          rw [List.getElem?_eq_getElem (by omega)] at hc0
          have hsp := World.cell?_spot hc0
          have ha : a.spot = none := by simpa [Addr.add] using hsp
          obtain ⟨b, off, spot⟩ := a
          simp only at ha
          subst ha
          refine ⟨b, off, rfl, by simpa [Addr.add] using hblk, fun j u hj => ?_⟩
          have hjl : j < rows.length * s.size := by
            have := (List.getElem?_eq_some_iff.1 hj).1
            rwa [flat_length (·.1) s.size rows hlen] at this
          have hk : j / s.size < rows.length := Nat.div_lt_of_lt_mul (by rw [Nat.mul_comm]; exact hjl)
          have hm : j % s.size < s.size := Nat.mod_lt _ hpos
          have hdm : j / s.size * s.size + j % s.size = j := by rw [Nat.mul_comm]; exact Nat.div_add_mod j s.size
          have hg := flat_get (·.1) s.size rows hlen (j / s.size) (j % s.size) hk hm
          rw [hdm, hj] at hg
          have hcell := (World.cells?_some (hrows _ _ (List.getElem?_eq_getElem hk)).1).2.2 (j % s.size) (by omega)
          rw [← hg] at hcell
          rw [hc, Addr.add_lit, ] at hcell
          rw [show ({ block := b, off := off + j / s.size * s.size, spot := none } : Addr).add (j % s.size) = ⟨b, off + j, none⟩ by rw [Addr.add_lit, Nat.add_assoc, hdm]] at hcell
          exact hcell
        refine ⟨_, _, Enc.list rows hsl hpos hlen (fun r hr => by obtain ⟨i, hi⟩ := List.getElem?_of_mem hr; exact (hrows i r hi).2.1), ?_⟩
        have hb := bulkAll_map elems (rows.map (·.2)) (fun i x hx' => by
          have hi : i < rows.length := by have := (List.getElem?_eq_some_iff.1 hx').1; omega
          exact ⟨(rows[i]).2, by simp [hi], (hrows i _ (List.getElem?_eq_getElem hi)).2.2 x hx'⟩) (by simp; omega)
        simp only [List.flatMap_map] at hb
        simp only [List.length_cons, Rows.uptoBulk]
        omega
end
end Go.Proofs.Ytcephfmafmmilaa
