/-
  The keys of a map of slips, in whatever order; the slice that collects them.
-/
import Derived.Test.YtbiffhekbnmffaaCh
namespace Go.Proofs.Ytbiffhekbnmffaa
open Go.RowKit Go.Shelf
attribute [local go_sem] Oper.semAt_some

abbrev Slip := Int × Int
def slipV (t : Slip) : Value := .agg #[.int .i64 t.1, .int .i64 t.2]
theorem slip_law : KeyLaw Try.prog 101 slipV where
  inj := fun a b h => by
    simp only [slipV, Value.agg.injEq, Array.mk.injEq, List.cons.injEq, Value.int.injEq, true_and, and_true] at h
    exact Prod.ext h.1 h.2
  check := fun em x w => by kernel_rfl
  eq := fun x y w => by
    obtain ⟨x1, x2⟩ := x
    obtain ⟨y1, y2⟩ := y
    show (Op.equalIn 10000 101 (.agg #[.int .i64 x1, .int .i64 x2]) (.agg #[.int .i64 y1, .int .i64 y2])).run Try.prog w = _
    by_cases h : x1 = y1
    · subst h
      by_cases h2 : x2 = y2
      · subst h2; simp [go_sem]
      · simp [go_sem, h2]
    · simp [go_sem, h]
  now := ⟨_, Try.underlying101, .inl (fun x y => rfl)⟩
  bits := fun x => by simp [slipV, Instr.sameBits]

theorem only_grown {w w' : World} {r : Nat} (h : Only (fun k => k = r) w w') : w.grownBy w' (some r) := ⟨h.os, h.tape, h.output, h.size, fun k hk hn => h.block k hk (fun e => hn (by rw [e]))⟩
theorem RangeF.walks {κ : Type} [DecidableEq κ] {kv : κ → Value} {w w' : World} {b r : Nat} {f : κ → Option Value} {left : κ → Prop} {m : Nat} (h : RangeF kv w b r f left m) (hk : KeepsWalks w w') : RangeF kv w' b r f left m := by
  obtain ⟨E, c, s, se, l, hm, hf, hi, rest⟩ := h
  exact ⟨E, c, s, se, l, ⟨hk.same b _ hm.heap rfl, hm.keys, hm.born, hm.lt⟩, hf, hk.same r _ hi rfl, rest⟩
theorem RangeF.iter {κ : Type} [DecidableEq κ] {kv : κ → Value} {w : World} {b r : Nat} {f : κ → Option Value} {left : κ → Prop} {m : Nat} (h : RangeF kv w b r f left m) : ∃ o : Obj, w.heap[r]? = some o ∧ o.isWalk = true := by
  obtain ⟨E, c, s, se, l, hm, hf, hi, rest⟩ := h
  exact ⟨_, hi, rfl⟩

/-- A list that tells where a map holds something. -/
def Tells (f : Slip → Option Value) (l : List Slip) : Prop := l.Nodup ∧ ∀ x, x ∈ l ↔ f x ≠ none

set_option maxHeartbeats 1000000 in
set_option maxRecDepth 100000 in
theorem keys1_stops (n Bm b N : Nat) (f : Slip → Option Value) (w : World) (hn : 2 ≤ n) (hBm : w.cell? ⟨Bm, 0, none⟩ = some (.map (some b))) (hM : MapF slipV w b f)
    (hN : ∀ l : List Slip, l.Nodup → (∀ x ∈ l, f x ≠ none) → l.length ≤ N) :
    SeqStopsK Fence.wide n Try.prog 78 #[.pointer (some ⟨Bm, 0, none⟩)] (fun t => #[slipV t]) KeepsWalks (Tells f) (fun _ => True) N w := by
  intro l J Jx W hW hJ hJx hY h0
  have hbm := (hW.cell (World.block_lt_of_cell? w _ hBm)).trans hBm
  have hM1 : MapF slipV W b f := hM.keep (Only.below hW) (fun h => by have := hM.lt; omega)
  obtain ⟨o, hrun, m0, hR0⟩ := hM1.range (P := Try.prog) Try.underlying99
  have h1 : J [] (W.alloc o) := hJ _ _ _ none h0 (World.grownBy_alloc W o none) (fun r e => by cases e)
  have HR0 := Lib.hid hR0; have H1 := Lib.hid h1
  clear hBm hM hM1 hR0 h1 h0
  refine callsIn_of_wp Try.func78 rfl trivial ?_ rfl
  simp only [Try.ntmps78, List.size_toArray, List.length_cons, List.length_nil, Nat.reduceAdd, Nat.reduceSub, Array.replicate_succ, Array.replicate_zero, List.push_toArray, List.append_toArray, List.nil_append, List.cons_append]
  gi_wp2
  clear hrun
  gi_loopw [6] (fun _ wr => ∃ (left : Slip → Prop) (m : Nat) (pre : List Slip), RangeF slipV wr b W.heap.size f left m ∧ J pre wr ∧ pre.Nodup ∧ (∀ x, x ∈ pre ↔ (f x ≠ none ∧ ¬ left x))) (fun _ wr => leftCount wr b W.heap.size)
  case atStart => exact ⟨_, _, [], HR0.out, H1.out, List.nodup_nil, fun x => ⟨(fun h => by cases h), fun h => absurd h.1 h.2⟩⟩
  case round =>
    clear HR0 H1
    obtain ⟨left, m, pre, hR, hJs, hnd, hmem⟩ := hrel
    have HM := Lib.hid hmem; have HND := Lib.hid hnd
    clear hmem hnd
    rcases hR.next (P := Try.prog) 0 with ⟨hno, hnx⟩ | ⟨x, v, w4, m4, hlx, hfx, hnx, hO, hsz, hR4, hmm4, hent⟩
    · gi_wp2
      go_end0
      exact ⟨⟨_, rfl⟩, .inl ⟨pre, ⟨HND.out, fun x => by rw [HM.out x]; exact ⟨fun h => h.1, fun h => ⟨h, hno x⟩⟩⟩, hJs⟩⟩
    · have hJ4 : J pre w4 := hJ _ _ _ (some W.heap.size) hJs (only_grown hO) (fun r e => by cases e; exact ⟨Nat.le_refl _, hR.iter⟩)
      have hnd2 : (pre ++ [x]).Nodup := by
        rw [List.nodup_append]
        exact ⟨HND.out, by simp, fun a ha b' hb' => by simp at hb'; subst hb'; intro e; subst e; exact ((HM.out a).1 ha).2 hlx⟩
      have hall : ∀ y ∈ pre ++ [x], f y ≠ none := fun y hy => by
        rcases List.mem_append.1 hy with hy | hy
        · exact ((HM.out y).1 hy).1
        · simp at hy; subst hy; rw [hfx]; simp
      have hlt : pre.length < N := by have := hN _ hnd2 hall; simp at this; omega
      have hJ5 : ∀ o, J pre (w4.alloc o) := fun o => hJ _ _ _ none hJ4 (World.grownBy_alloc w4 o none) (fun r e => by cases e)
      have hR5 : ∀ o, RangeF slipV (w4.alloc o) b W.heap.size f (fun y => left y ∧ y ≠ x) m4 := fun o => hR4.walks (KeepsWalks.alloc w4 o)
      obtain ⟨fn, tmps, assign, body, hy, hRd⟩ := hY pre x _ (hJ5 (.cells #[.int .i64 x.1, .int .i64 x.2] 101)) hlt
      have HR5 := Lib.hid (hR5 (.cells #[.int .i64 x.1, .int .i64 x.2] 101))
      have HND2 := Lib.hid hnd2
      have hcnt := Lib.hid hR.count
      dsimp only [slipV] at hy hnx hent
      clear hJ5 hR5 hR4 hJ4 hnd2 hall hR hO hJs hsz
      gi_wp2
      refine ⟨fun _ => by omega, hRd.mono ?_⟩
      rintro e W3 (⟨rfl, hJ3, hk3⟩ | ⟨rfl, hJx3⟩)
      · have HR3 := Lib.hid (HR5.out.walks hk3)
        clear hnx hent hy hk3
        gi_wp2
        go_roundw
        case rel =>
          refine ⟨_, m4, pre ++ [x], HR3.out, hJ3, HND2.out, fun y => ?_⟩
          rw [List.mem_append, HM.out y]
          simp only [List.mem_singleton]
          constructor
          · rintro (⟨h1, h2⟩ | rfl)
            · exact ⟨h1, fun h => h2 h.1⟩
            · exact ⟨by rw [hfx]; simp, fun h => h.2 rfl⟩
          · rintro ⟨h1, h2⟩
            by_cases hy : y = x
            · exact .inr hy
            · exact .inl ⟨h1, fun h => h2 ⟨h, hy⟩⟩
        case measure => rw [HR3.out.count, hcnt.out]; exact hmm4
      · gi_wp2
        refine bodyPost_ret (results_none rfl _ _ _) rfl ?_
        exact ⟨⟨_, rfl⟩, .inr ⟨_, trivial, hJx3⟩⟩

theorem keys_any (b : Nat) (w : World) :
    Calls Try.prog 63 #[.map (some b)] w fun e w' => e = .returned (.func (.func 78) #[] #[.pointer (some ⟨w.heap.size, 0, none⟩)]) ∧ w' = w.alloc (.cells #[.map (some b)] 99) := by
  go_enter Try.func63, Try.ntmps63
  go_wp2
  go_ret
  exact ⟨rfl, rfl⟩
end Go.Proofs.Ytbiffhekbnmffaa
