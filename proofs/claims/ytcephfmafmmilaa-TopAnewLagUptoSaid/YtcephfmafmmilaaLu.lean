/-
  The board: what it knows.
-/
import Derived.Test.YtcephfmafmmilaaLt
namespace Go.Proofs.Ytcephfmafmmilaa
open Go.RowKit Go.Shelf

def keyV (x : Int) : Value := .agg #[.int .i64 x]
theorem key_law : KeyLaw Try.prog 95 keyV where
  inj := fun a b h => by simpa [keyV] using h
  check := fun em x w => by kernel_rfl
  eq := fun x y w => by
    show (Op.equalIn 10000 95 (.agg #[.int .i64 x]) (.agg #[.int .i64 y])).run Try.prog w = _
    by_cases h : x = y
    · subst h; simp [go_sem]
    · simp [go_sem, h]
  now := ⟨_, Try.underlying95, .inl (fun x y => rfl)⟩
  bits := fun x => by simp [keyV, Instr.sameBits]

theorem MapF.clear {P : Program} {K : TypeId} {κ : Type} [DecidableEq κ] {kv : κ → Value} {T el ty : TypeId} {w : World} {b : Nat} {f : κ → Option Value} (h : MapF kv w b f) (hT : P.underlying T = some (.map K el)) :
    ∃ c, (Builtin.clear_ #[T] ty #[.map (some b)]).run P w = .ok (.tuple #[]) (w.putObj b (.map #[] c)) ∧ (w.putObj b (.map #[] c)).heap[b]? = some (.map #[] c) := by
  obtain ⟨E, c, hm, hf⟩ := h
  refine ⟨c, by simp [Builtin.clear_, run_underlying hT, Result.andThen, MapKept.run_getObj_map hm.heap, MapKept.run_setObj_map _ hm.heap]; rfl, putObj_at hm.heap⟩
/-- An entry of an empty map, asked for and then written. -/
theorem entry_empty {P : Program} {K : TypeId} {κ : Type} [DecidableEq κ] {kv : κ → Value} (L : KeyLaw P K kv) {T el : TypeId} {z : Value} {w : World} {b c : Nat} (h : w.heap[b]? = some (.map #[] c)) (hT : P.underlying T = some (.map K el)) (hz : (zeroValue el).run P w = .ok z w) (x : κ) :
    (Instr.mapEntry T (.map (some b)) (kv x)).run P w = .ok (.tuple #[z, .int .i64 c]) (w.putObj b (.map #[⟨kv x, z, c⟩] (c + 1))) := by
  have hf := run_find (P := P) L x w []
  simp only [List.map_nil, hit] at hf
  simp [Instr.mapEntry, run_underlying hT, Result.andThen, MapKept.run_getObj_map h, L.check, hf, hz, MapKept.run_setObj_map _ h, goInt]
  rfl
theorem entry_store {P : Program} {κ : Type} [DecidableEq κ] (kv : κ → Value) {T : TypeId} {z v : Value} {w : World} {b c k : Nat} (x : κ) (h : w.heap[b]? = some (.map #[⟨kv x, z, c⟩] k)) (hk : c < k) :
    (Instr.entryStore T (.map (some b)) (.int .i64 c) v).run P w = .ok () (w.putObj b (.map #[⟨kv x, v, c⟩] k)) ∧ MapF kv (w.putObj b (.map #[⟨kv x, v, c⟩] k)) b (upd (fun _ => none) x (some v)) := by
  constructor
  · have hi : (#[(⟨kv x, z, c⟩ : MapEntry)]).findIdx? (fun e => (e.born : Int) == (c : Int)) = some 0 := by simp [List.findIdx?_toArray, List.findIdx?_cons]
    simp only [Instr.entryStore, Sem.run_bind, MapKept.run_getObj_map h, Result.andThen_ok]
    have ha : (asInt (.int .i64 (c : Int))).run P w = .ok (c : Int) w := rfl
    rw [ha]
    simp only [Result.andThen_ok, hi]
    rw [MapKept.run_setObj_map _ h]
    simp [World.putObj]
  · refine ⟨[(x, v, c)], k, ⟨by simpa [ent] using putObj_at h, by simp, by simp, by simpa using hk⟩, fun y => ?_⟩
    unfold upd look
    by_cases hy : y = x
    · subst hy; simp
    · simp [hy]

theorem mosts_len (c : List Int) : ∀ k, (mosts c k).length = k + 1
  | 0 => rfl
  | k + 1 => by simp [mosts, mosts_len c k]
theorem mosts_get (c : List Int) : ∀ (k j : Nat), j ≤ k → nAt (mosts c k) j = mostOf c j
  | 0, j, h => by obtain rfl : j = 0 := by omega
                  rfl
  | k + 1, j, h => by
    rcases (by omega : j = k + 1 ∨ j ≤ k) with rfl | h'
    · rfl
    · rw [← mosts_get c k j h']
      simp only [nAt, mosts]
      rw [List.getElem?_append_left (by rw [mosts_len]; omega)]
theorem mostOf_zero (c : List Int) : mostOf c 0 = 0 := rfl
theorem mostOf_succ (c : List Int) (k : Nat) : mostOf c (k + 1) = mostNext c (mosts c k) (k + 1) := by
  simp only [mostOf, nAt, mosts]
  rw [List.getElem?_append_right (by rw [mosts_len]; omega), mosts_len]
  simp
theorem mostFold_bd {c known : List Int} {k : Nat} {B : Int} (hb : ∀ i, 0 ≤ nAt c i ∧ nAt c i ≤ 100) (hk : ∀ j, 0 ≤ nAt known j) (h0 : nAt known (k - 1) ≤ B) : ∀ m, (m = 0 ∧ (List.range m).foldl (mostStep c known k) (-1) = -1) ∨ (1 ≤ m ∧ 0 ≤ (List.range m).foldl (mostStep c known k) (-1) ∧ (List.range m).foldl (mostStep c known k) (-1) ≤ 100 + B)
  | 0 => .inl ⟨rfl, rfl⟩
  | m + 1 => by
    refine .inr ⟨by omega, ?_⟩
    rw [List.range_succ, List.foldl_append]
    simp only [List.foldl_cons, List.foldl_nil]
    have hm := hb m; have hkm := hk (k - (m + 1))
    rcases mostFold_bd hb hk h0 m with ⟨rfl, h⟩ | ⟨h1, h2, h3⟩
    · rw [h]; unfold mostStep; rw [if_pos (by omega)]
      have := hb 0
      rw [Nat.zero_add] at hkm ⊢
      exact ⟨by omega, by omega⟩
    · generalize (List.range m).foldl (mostStep c known k) (-1) = x at h2 h3
      unfold mostStep
      dsimp only
      split
      · rename_i h; exact ⟨by omega, by rcases h with h | h <;> omega⟩
      · exact ⟨h2, h3⟩
theorem mosts_nonneg {c : List Int} (h1 : 1 ≤ c.length) (hb : ∀ i, 0 ≤ nAt c i ∧ nAt c i ≤ 100) : ∀ (k : Nat), (∀ j, 0 ≤ nAt (mosts c k) j) ∧ mostOf c k ≤ 100 * k
  | 0 => ⟨fun j => by cases j <;> simp [nAt, mosts], by rw [mostOf_zero]; omega⟩
  | k + 1 => by
    obtain ⟨ih1, ih2⟩ := mosts_nonneg h1 hb k
    have hf := mostFold_bd (k := k + 1) (B := 100 * k) hb ih1 (by rw [Nat.add_sub_cancel, mosts_get c k k (Nat.le_refl _)]; exact ih2) (min c.length (k + 1))
    have hn : 0 ≤ mostNext c (mosts c k) (k + 1) ∧ mostNext c (mosts c k) (k + 1) ≤ 100 + 100 * k := by
      rcases hf with ⟨h0, _⟩ | ⟨_, h2, h3⟩
      · omega
      · exact ⟨h2, h3⟩
    refine ⟨fun j => ?_, by rw [mostOf_succ]; push_cast; omega⟩
    rcases Nat.lt_or_ge j (k + 1) with h | h
    · rw [mosts_get c (k + 1) j (by omega), ← mosts_get c k j (by omega)]; exact ih1 j
    · rcases (by omega : j = k + 1 ∨ k + 1 < j) with rfl | h'
      · rw [mosts_get c (k + 1) _ (Nat.le_refl _), mostOf_succ]; exact hn.1
      · simp [nAt, List.getElem?_eq_none (show (mosts c (k + 1)).length ≤ j by rw [mosts_len]; omega)]
theorem mostOf_bd {c : List Int} (h1 : 1 ≤ c.length) (hb : ∀ i, 0 ≤ nAt c i ∧ nAt c i ≤ 100) (k : Nat) : 0 ≤ mostOf c k ∧ mostOf c k ≤ 100 * k := ⟨(mosts_nonneg h1 hb k).1 k, (mosts_nonneg h1 hb k).2⟩

def knows (top : Nat) (k : Int) : Prop := k = 0 ∨ (0 < k ∧ (top : Int) - 11 ≤ k ∧ k ≤ top)
instance (top : Nat) (k : Int) : Decidable (knows top k) := by unfold knows; infer_instance
def knownF (c : List Int) (top : Nat) (k : Int) : Option Value := if knows top k then some (.int .i64 (mostOf c k.toNat)) else none
def knownI (c : List Int) (top : Nat) (k : Int) : Int := if knows top k then mostOf c k.toNat else 0
theorem knownF_get (c : List Int) (top : Nat) (k : Int) : (knownF c top k).getD (.int .i64 0) = .int .i64 (knownI c top k) := by unfold knownF knownI; split <;> rfl
theorem knownF_start (c : List Int) (x : Int) : upd (fun _ : Int => (none : Option Value)) 0 (some (.int .i64 0)) x = knownF c 0 x := by
  unfold upd knownF
  by_cases h : x = 0
  · subst h; rw [if_pos rfl, if_pos (.inl rfl)]; rfl
  · rw [if_neg h, if_neg (by unfold knows; omega)]
/-- One number more is known; one that is long ago no longer. -/
theorem knownF_next (c : List Int) (top : Nat) (x : Int) : (if x = (top : Int) + 1 - 12 ∧ (top : Int) + 1 - 12 ≠ 0 then none else upd (knownF c top) ((top : Int) + 1) (some (.int .i64 (mostOf c (top + 1)))) x) = knownF c (top + 1) x := by
  unfold upd knownF
  by_cases h1 : x = (top : Int) + 1 - 12 ∧ (top : Int) + 1 - 12 ≠ 0
  · rw [if_pos h1, if_neg (by unfold knows; push_cast; omega)]
  · rw [if_neg h1]
    by_cases h2 : x = (top : Int) + 1
    · rw [if_pos h2, if_pos (by unfold knows; push_cast; omega), h2]; rfl
    · rw [if_neg h2]
      by_cases h3 : knows top x
      · rw [if_pos h3, if_pos (by unfold knows at *; push_cast; omega)]
      · rw [if_neg h3, if_neg (by unfold knows at *; push_cast; omega)]

def outStep (c : List Int) (top : Nat) (o : Int) (x : Int × Int) : Int :=
  let n := wrap64 (x.2 + knownI c top (wrap64 ((top : Int) + 1 - x.1)))
  if o < 0 ∨ n < o then n else o
def outTo (c : List Int) (top : Nat) (l : List (Int × Int)) : Int := l.foldl (outStep c top) (-1)
theorem outTo_snoc (c : List Int) (top : Nat) (l : List (Int × Int)) (x : Int × Int) : outTo c top (l ++ [x]) = outStep c top (outTo c top l) x := by simp [outTo, List.foldl_append]
theorem outTo_all {c : List Int} (h1 : 1 ≤ c.length) (h6 : c.length ≤ 6) (hb : ∀ i, 0 ≤ nAt c i ∧ nAt c i ≤ 100) (top : Nat) (ht : top ≤ 1000) : outTo c top (cutsOf c (top + 1)) = mostOf c (top + 1) := by
  rw [mostOf_succ]
  unfold mostNext outTo cutsOf cutsTo
  rw [List.foldl_map]
  have key : ∀ m, m ≤ min c.length (top + 1) → (List.range m).foldl (fun o (i : Nat) => outStep c top o ((i : Int) + 1, nAt c i)) (-1) = (List.range m).foldl (mostStep c (mosts c top) (top + 1)) (-1) := by
    intro m
    induction m with
    | zero => intro _; rfl
    | succ m ih =>
      intro hm
      rw [List.range_succ, List.foldl_append, List.foldl_append, ih (by omega)]
      simp only [List.foldl_cons, List.foldl_nil]
      generalize (List.range m).foldl (mostStep c (mosts c top) (top + 1)) (-1) = o
      have hbm := hb m
      have hmo := mostOf_bd h1 hb (top - m)
      have e1 : wrap64 ((top : Int) + 1 - ((m : Int) + 1)) = ((top - m : Nat) : Int) := by unfold wrap64; omega
      have e2 : knownI c top ((top - m : Nat) : Int) = mostOf c (top - m) := by
        unfold knownI; rw [if_pos (by unfold knows; omega), Int.toNat_natCast]
      unfold outStep mostStep
      dsimp only
      rw [e1, e2, show top + 1 - (m + 1) = top - m by omega, mosts_get c top (top - m) (by omega)]
      have e3 : wrap64 (nAt c m + mostOf c (top - m)) = nAt c m + mostOf c (top - m) := by unfold wrap64; omega
      rw [e3]
  exact key _ (Nat.le_refl _)

/-- A board at a block. -/
structure Board (c : List Int) (sv : Value) (b mb top : Nat) (f0 f1 f2 f3 f4 f5 f6 : Int) (W : World) : Prop where
  row : W.heap[b]? = some (.cells #[sv, .map (some mb), .int .i64 f0, .int .i64 f1, .int .i64 f2, .int .i64 f3, .int .i64 f4, .int .i64 f5, .int .i64 f6, .int .i64 top] 100)
  map : MapF keyV W mb (knownF c top)
  few : [f0, f1, f2, f3, f4, f5, f6] = List.replicate 7 0 ∨ [f0, f1, f2, f3, f4, f5, f6] = (List.range 7).map (mostOf c)
theorem Board.ne {c : List Int} {sv : Value} {b mb top : Nat} {f0 f1 f2 f3 f4 f5 f6 : Int} {W : World} (h : Board c sv b mb top f0 f1 f2 f3 f4 f5 f6 W) : b ≠ mb := by
  obtain ⟨E, c', hm, _⟩ := h.map
  intro e; subst e; have := h.row; rw [hm.heap] at this; cases this
theorem Board.keep {c : List Int} {sv : Value} {b mb top : Nat} {f0 f1 f2 f3 f4 f5 f6 : Int} {S : Nat → Prop} {W W' : World} (h : Board c sv b mb top f0 f1 f2 f3 f4 f5 f6 W) (ho : Only S W W') (h1 : ¬ S b) (h2 : ¬ S mb) : Board c sv b mb top f0 f1 f2 f3 f4 f5 f6 W' :=
  ⟨ho.heap h.row h1, h.map.keep ho h2, h.few⟩
theorem infoArr : (Try.prog.info? 2).map (fun i => (i.zero, i.size, i.bytes)) = some (some (.int .i64 0), 1, 8) := by kernel_rfl
theorem few_eq (f0 f1 f2 f3 f4 f5 f6 : Int) (w : World) :
    (Op.equalIn 10000 98 (.agg #[.int .i64 f0, .int .i64 f1, .int .i64 f2, .int .i64 f3, .int .i64 f4, .int .i64 f5, .int .i64 f6]) (.agg #[.int .i64 0, .int .i64 0, .int .i64 0, .int .i64 0, .int .i64 0, .int .i64 0, .int .i64 0])).run Try.prog w
      = .ok (decide ([f0, f1, f2, f3, f4, f5, f6] = List.replicate 7 0)) w := by
  obtain ⟨i0, hi, _⟩ := info_parts infoArr
  have := run_equal_ints (P := Try.prog) w Try.underlying98 hi Try.underlying2 (by kernel_rfl) (by kernel_rfl) [f0, f1, f2, f3, f4, f5, f6] (List.replicate 7 0) rfl rfl
  simpa using this
end Go.Proofs.Ytcephfmafmmilaa
