/-
  rulesOf; a list of pools.
-/
import Derived.Test.YtngkmfddamaegaaPl
namespace Go.Proofs.Ytngkmfddamaegaa
open Go.RowKit

def rulesV (p : Pool) : List Int := [p.per, p.pence, p.keep, p.step, (p.tickets.length : Int)]
def rulesA (p : Pool) : Value := .agg #[.int .i64 p.per, .int .i64 p.pence, .int .i64 p.keep, .int .i64 p.step, .int .i64 p.tickets.length]

set_option maxHeartbeats 1000000 in
set_option maxRecDepth 100000 in
theorem rules_eq (p q : Pool) (w : World) : (Op.equalIn 10000 89 (rulesA p) (rulesA q)).run Try.prog w = .ok (decide (rulesV p = rulesV q)) w := by
  unfold rulesA rulesV
  simp only [List.cons.injEq, and_true]
  generalize (p.tickets.length : Int) = n
  generalize (q.tickets.length : Int) = m
  by_cases h0 : p.per = q.per <;> simp [go_sem, h0]
  by_cases h1 : p.pence = q.pence <;> simp [h1]
  by_cases h2 : p.keep = q.keep <;> simp [h2]
  by_cases h3 : p.step = q.step <;> simp [h3]
  by_cases h4 : n = m <;> simp [h4]

set_option maxHeartbeats 1000000 in
set_option maxRecDepth 100000 in
theorem rulesOf_any (D : Nat → Prop) (v : Value) (p : Pool) (w : World) (hv : PoolAt D w v p) :
    Calls Try.prog 59 #[v] w fun e w' => e = .returned (rulesA p) ∧ Pure w w' := by
  obtain ⟨tk, rfl, hr⟩ := hv
  obtain ⟨a, len, cap, rfl, hlen, _, hm, _⟩ := hr
  have HL := Lib.hid hlen
  clear hlen
  have hk := World.alloc_heap_new (w.alloc (Obj.cells #[.slice a len cap, .int .i64 p.per, .int .i64 p.pence, .int .i64 p.keep, .int .i64 p.step] 24)) (.cells #[.int .i64 p.per, .int .i64 p.pence, .int .i64 p.keep, .int .i64 p.step, .int .i64 len] 89)
  rw [World.size_alloc] at hk
  have S := Lib.hid hk
  clear hk
  go_enter Try.func59, Try.ntmps59
  go_wp2
  have e0 := cell_of_row _ _ 0 _ _ _ S.out
  have e1 := cell_of_row _ _ 1 _ _ _ S.out
  have e2 := cell_of_row _ _ 2 _ _ _ S.out
  have e3 := cell_of_row _ _ 3 _ _ _ S.out
  have e4 := cell_of_row _ _ 4 _ _ _ S.out
  refine bodyPost_ret (v := .agg #[.int .i64 p.per, .int .i64 p.pence, .int .i64 p.keep, .int .i64 p.step, .int .i64 len]) ?_ rfl ⟨by unfold rulesA; rw [HL.out], ((Only.refl _ w).alloc _).alloc _⟩
  simp at e0 e1 e2 e3 e4
  simp [results, Try.f59, go_sem, e0, e1, e2, e3, e4]

def noPool : Pool := ⟨[], 0, 0, 0, 0⟩
def poolAt (l : List Pool) (i : Nat) : Pool := l[i]?.getD noPool
/-- A slice of pools, read. -/
def PoolsAt (D : Nat → Prop) (w : World) (v : Value) (l : List Pool) : Prop :=
  ∃ a len cap, v = .slice a len cap ∧ len = l.length ∧ len ≤ cap ∧ len ≤ 9223372036854775807 ∧ ∀ i, i < len → ∃ b off tk, a = some ⟨b, off, none⟩ ∧ D b ∧ w.cell? ⟨b, off + i * 5, none⟩ = some tk ∧
    w.cell? ⟨b, off + i * 5 + 1, none⟩ = some (.int .i64 (poolAt l i).per) ∧ w.cell? ⟨b, off + i * 5 + 2, none⟩ = some (.int .i64 (poolAt l i).pence) ∧ w.cell? ⟨b, off + i * 5 + 3, none⟩ = some (.int .i64 (poolAt l i).keep) ∧
    w.cell? ⟨b, off + i * 5 + 4, none⟩ = some (.int .i64 (poolAt l i).step) ∧ Ranges D w tk (poolAt l i).tickets
theorem PoolsAt.keep {D S : Nat → Prop} {w w' : World} {v : Value} {l : List Pool} (h : PoolsAt D w v l) (ho : Only S w w') (hd : ∀ k, D k → ¬ S k) : PoolsAt D w' v l := by
  obtain ⟨a, len, cap, hv, hl, hc, hm, h⟩ := h
  refine ⟨a, len, cap, hv, hl, hc, hm, fun i hi => ?_⟩
  obtain ⟨b, off, tk, ha, hD, c0, c1, c2, c3, c4, hr⟩ := h i hi
  exact ⟨b, off, tk, ha, hD, ho.cell c0 (hd b hD), ho.cell c1 (hd b hD), ho.cell c2 (hd b hD), ho.cell c3 (hd b hD), ho.cell c4 (hd b hD), hr.keep ho hd⟩
theorem PoolsAt.pure {D : Nat → Prop} {w w' : World} {v : Value} {l : List Pool} (h : PoolsAt D w v l) (ho : Pure w w') : PoolsAt D w' v l := h.keep ho (fun _ _ f => f)

def narrowAt (l : List Pool) (i k : Nat) : Bool := withinB (rangeAt (poolAt l i) k).1 (rangeAt (poolAt l i) k).2 [(rangeAt (poolAt l (i + 1)) k).1, (rangeAt (poolAt l (i + 1)) k).2]
def wideB (l : List Pool) : Bool := (List.range (l.length - 1)).any fun i => (List.range (poolAt l (i + 1)).tickets.length).any fun k => !narrowAt l i k
def whenR (l : List Pool) (runner dividend : Int) : Int × Int :=
  if withinB 1 20 [(l.length : Int)] = false then (0, 6) else
  match (List.range l.length).find? (fun i => decide (checkPool (poolAt l i) ≠ 0)) with
  | some i => (0, checkPool (poolAt l i))
  | none =>
    if (List.range l.length).any (fun i => decide (rulesV (poolAt l i) ≠ rulesV (poolAt l 0))) then (0, 15) else
    if wideB l then (0, 16) else
    if checkW (poolAt l 0) runner dividend ≠ 0 then (0, checkW (poolAt l 0) runner dividend) else
    match (List.range l.length).find? (fun i => decide (0 ≤ worstLeft (poolAt l i) runner.toNat dividend)) with
    | some i => (i, 0)
    | none => (0, 12)
end Go.Proofs.Ytngkmfddamaegaa
