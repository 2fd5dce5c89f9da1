/-
  Board.
-/
import Derived.Test.YtngkmfddamaegaaPk
import Derived.ArgAppend
import Derived.Laws.CopyOwn
import Derived.Laws.MakeOwn
namespace Go.Proofs.Ytngkmfddamaegaa
open Go.RowKit

def boardR (p : Pool) : List Int × Int :=
  if checkPool p ≠ 0 then ([], checkPool p) else match (List.range p.tickets.length).find? (fun i => decide ((dividendR p (i : Nat)).2 ≠ 0)) with
    | some i => ([], (dividendR p (i : Nat)).2)
    | none => ((List.range p.tickets.length).map (fun i => (dividendR p (i : Nat)).1), 0)

theorem find_range {f : Nat → Bool} {n k : Nat} (hk : k < n) (hf : f k = true) (hb : ∀ j < k, f j = false) : (List.range n).find? f = some k := by
  obtain ⟨d, rfl⟩ := Nat.exists_eq_add_of_lt hk
  rw [show k + d + 1 = k + (1 + d) by omega, List.range_add, List.find?_append]
  have h1 : (List.range k).find? f = none := List.find?_eq_none.2 fun x hx => by rw [hb x (List.mem_range.1 hx)]; simp
  rw [h1, show 1 + d = d + 1 by omega, List.range_succ_eq_map]
  simp [hf]

/-- The list of the dividends under way: nil, or a row of its own. -/
def Boarding (w : World) (v : Value) (l : List Int) (wr : World) : Prop := wr.ownsRow w.heap.size 2 1 v l.length (l.map (.int .i64))

set_option maxHeartbeats 1000000 in
set_option maxRecDepth 100000 in
theorem Board_any (D : Nat → Prop) (v : Value) (p : Pool) (w : World) (hv : PoolAt D w v p) :
    Calls Try.prog 26 #[v] w fun e w' => ∃ u, e = .returned (.tuple #[u, .int .i64 (boardR p).2]) ∧ Fresh w u (boardR p).1 w' ∧ Pure w w' := by
  have hC0 := hv
  obtain ⟨tk, rfl, hr⟩ := hv
  obtain ⟨a, len, cap, rfl, hlen, _, hm, _⟩ := hr
  have hP0 : Pure w (w.alloc (Obj.cells #[.slice a len cap, .int .i64 p.per, .int .i64 p.pence, .int .i64 p.keep, .int .i64 p.step] 24)) := (Only.refl _ w).alloc _
  have hB0 : Box5 w.heap.size (.slice a len cap) p (w.alloc (Obj.cells #[.slice a len cap, .int .i64 p.per, .int .i64 p.pence, .int .i64 p.keep, .int .i64 p.step] 24)) := by simp [Box5]
  have hC := checkPool_any D _ p _ (hC0.pure hP0)
  obtain ⟨i0, hi, hz0, hz1, hz2⟩ := info_parts info2
  have HP0 := Lib.hid hP0; have HV := Lib.hid hC0; have HL := Lib.hid hlen; have HB0 := Lib.hid hB0
  clear hP0 hlen hC0 hB0
  go_enter Try.func26, Try.ntmps26
  go_wp2_with fail
  refine hC.mono ?_
  rintro e w1 ⟨rfl, P1⟩
  have Q1 := Lib.hid (HP0.out.trans P1)
  have HB1 := Lib.hid (HB0.out.pure P1)
  clear hC P1
  obtain ⟨ce, hce⟩ : ∃ x, checkPool p = x := ⟨_, rfl⟩
  have HC := Lib.hid hce
  rw [hce]
  clear hce
  by_cases h0 : ce = 0
  · subst h0
    obtain ⟨v2, v8, _, _, _, _⟩ := valid_of HC.out
    rw [← HL.out] at v2 v8
    obtain ⟨d10, d11, d12, d13, d14⟩ := HB1.out
    go_wp2_with fail
    clear d10 d11 d12 d13 d14
    go_loopw [18, 5] (fun i al wr => ∃ (k : Nat) (ao : Option Addr) (ac : Nat), k ≤ len ∧ i = .int .i64 k ∧ al = .slice ao k ac ∧ k ≤ ac ∧ (ao = none → k = 0) ∧ Boarding w (.slice ao k ac) ((List.range k).map fun i => (dividendR p (i : Nat)).1) wr ∧ (∀ j < k, (dividendR p (j : Nat)).2 = 0) ∧ Box5 w.heap.size (.slice a len cap) p wr ∧ Pure w wr) (fun i _ _ => len - (intOf i).toNat)
    case atStart => exact ⟨0, none, 0, Nat.zero_le _, rfl, rfl, Nat.le_refl _, fun _ => rfl, World.ownsRow_nil _ _ _ _, fun j hj => by omega, HB1.out, Q1.out⟩
    case round =>
      obtain ⟨k, ao, ac, hk, rfl, rfl, hac, hao, hrow, hok, hB, hP⟩ := hrel
      have HROW := Lib.hid hrow; have HOK := Lib.hid hok; have HPP := Lib.hid hP
      clear hrow hok hP
      by_cases hlt : k < len
      · have hDv := Dividend_any D _ p k wr (HV.out.pure HPP.out)
        obtain ⟨R, hR⟩ : ∃ x, dividendR p (k : Nat) = x := ⟨_, rfl⟩
        have HR := Lib.hid hR
        rw [hR] at hDv
        clear hR
        obtain ⟨x, e⟩ := R
        obtain ⟨d10, d11, d12, d13, d14⟩ := id hB
        go_wp2_with fail
        refine hDv.mono ?_
        rintro e w2 ⟨rfl, P2⟩
        have Q2 := Lib.hid (HPP.out.trans P2)
        have HB2 := Lib.hid (hB.pure P2)
        have HROW2 := Lib.hid (show w2.ownsRow w.heap.size 2 1 (.slice ao k ac) ((List.range k).map fun i => (dividendR p (i : Nat)).1).length (((List.range k).map fun i => (dividendR p (i : Nat)).1).map (.int .i64)) from by
          refine World.ownsRow.kept (row := none) HROW.out (pure_grown P2) ?_
          cases hv : (Value.slice ao k ac).ownBlock with
          | none => exact .inl rfl
          | some k => exact .inr (by simp))
        clear hDv P2 hB d10 d11 d12 d13 d14
        by_cases he : e = 0
        · subst he
          have hcells : ∀ b, ao = some b → ∀ j u, (((List.range k).map fun i => (dividendR p (i : Nat)).1).map (Value.int .i64))[j]? = some u → (w2.alloc (.cells #[.int .i64 x] 2)).cell? (b.add j) = some u := fun b hb j u hj => by
            subst hb
            have hform := HROW2.out.2
            rcases hform with ⟨h', _⟩ | ⟨g, cap', cur, h', hbg, hg, hle, hcm, hcs, htk⟩
            · simp at h'
            · simp only [Value.slice.injEq, Option.some.injEq] at h'
              obtain ⟨rfl, _, rfl⟩ := h'
              have := HROW2.out.cells rfl j u hj
              exact ((Only.refl (fun _ => False) w2).alloc _).cell this (fun f => f)
          have HCE := Lib.hid hcells; clear hcells
          go_wp2_with (at_builtin; refine wpList_append_grows _ rfl _ _ 25 rfl 2 i0 (.int .i64 0) 1 8 Try.underlying25 hi hz0 hz1 hz2 rfl (by decide) ao k k (((List.range k).map fun i => (dividendR p (i : Nat)).1).map (.int .i64)) rfl ?n1 ?n2 HCE.out ⟨w2.heap.size, 0, none⟩ 1 1 [.int .i64 x] rfl rfl (cell_one_new _ _ _) ?n3 ?n4 ?n5 ?n6 ?_)
          case n1 => exact fun h => ⟨hao h, hao h⟩
          case n2 => simp
          case n3 => intro u hu; simp at hu; subst hu; rfl
          case n4 => omega
          case n5 => unfold maxLen; omega
          case n6 => omega
          intro v' w3 hown hg
          obtain ⟨g, cap', rfl⟩ := ownsRow_succ hown
          have hP3 : Pure w2 w3 := ((Only.refl _ w2).alloc _).grown hg (fun k e => by cases e)
          have HB3 := Lib.hid (HB2.out.pure hP3)
          have Q3 := Lib.hid (Q2.out.trans hP3)
          have HRW := Lib.hid (show Boarding w (.slice (some ⟨g, 0, none⟩) (k + 1) cap') ((List.range (k + 1)).map fun i => (dividendR p (i : Nat)).1) w3 by
            unfold Boarding
            rw [List.range_succ, List.map_append, List.map_append]
            simp only [List.map_cons, List.map_nil, List.length_append, List.length_map, List.length_range, List.length_cons, List.length_nil, Nat.zero_add, HR.out, List.map_map]
            exact owns_le hown (Nat.le_succ_of_le Q2.out.size))
          have hcap : k + 1 ≤ cap' := by
            rcases hown.2 with ⟨h', _⟩ | ⟨_, _, _, h', _, _, hle, _⟩
            · simp at h'
            · simp only [Value.slice.injEq] at h'; obtain ⟨_, _, rfl⟩ := h'; exact hle
          have hok2 := Lib.hid (show ∀ j < k + 1, (dividendR p (j : Nat)).2 = 0 from fun j hj => by
            rcases Nat.lt_or_ge j k with h | h
            · exact HOK.out j h
            · obtain rfl : j = k := by omega
              rw [HR.out])
          clear hown hg hP3
          go_wp2
          go_roundw
          case rel => exact ⟨k + 1, some ⟨g, 0, none⟩, cap', by omega, by go_num, rfl, hcap, (fun h => by cases h), HRW.out, hok2.out, HB3.out, Q3.out⟩
          case measure => simp [intOf]; omega
        · have hF : boardR p = ([], e) := by
            unfold boardR
            rw [if_neg (by rw [HC.out]; simp), find_range (k := k) (by rw [← HL.out]; exact hlt) (by rw [HR.out]; simpa using he) (fun j hj => by rw [HOK.out j hj]; simp)]
            simp only [HR.out]
          have HF := Lib.hid hF; clear hF
          go_wp2
          go_ret2
          exact ⟨_, by rw [HF.out]; rfl, by rw [HF.out]; exact World.ownsRow_nil _ _ _ _, Q2.out⟩
      · obtain rfl : k = len := by omega
        have hF : boardR p = ((List.range k).map (fun i => (dividendR p (i : Nat)).1), 0) := by
          unfold boardR
          rw [if_neg (by rw [HC.out]; simp), ← HL.out, List.find?_eq_none.2 (fun x hx => by rw [HOK.out x (List.mem_range.1 hx)]; simp)]
        have HF := Lib.hid hF; clear hF
        have hrow := HROW.out
        unfold Boarding at hrow
        generalize hds : (List.range k).map (fun i => (dividendR p (i : Nat)).1) = ds at hrow HF
        have hdl : ds.length = k := by rw [← hds]; simp
        have HDL := Lib.hid hdl
        rw [hdl] at hrow
        clear hds hdl
        obtain ⟨g, cp, he, _, _⟩ := hrow.form (by omega)
        simp only [Value.slice.injEq] at he
        obtain ⟨rfl, _, rfl⟩ := he
        have hmk := run_makeSlice (P := Try.prog) wr 25 2 i0 (.int .i64 0) Try.underlying25 hi hz0 .i64 .i64 k k (by omega) (by omega) (by rw [hz1]; simp; omega) (by rw [hz2]; omega) (by omega)
        rw [hz1] at hmk
        simp only [Int.toNat_natCast, Nat.mul_one] at hmk
        have hsrc : ∀ j u, (ds.map (Value.int .i64))[j]? = some u → (wr.alloc (.cells (madeCells (Value.int .i64 0).cells k) 2)).cell? ((⟨g, 0, none⟩ : Addr).add j) = some u := fun j u hj =>
          ((Only.refl (fun _ => False) wr).alloc _).cell (hrow.cells rfl j u hj) (fun f => f)
        have HSRC := Lib.hid hsrc
        have hnew := World.alloc_heap_new wr (.cells (madeCells (Value.int .i64 0).cells k) 2)
        have HNEW := Lib.hid hnew
        clear hsrc hnew hrow
        have hsz : (Try.prog.info? 2).map (·.size) = some 1 := by rw [hi]; simp [hz1]
        have hmsz : (madeCells (Value.int .i64 0).cells k).size = k := size_madeCells _ _
        generalize madeCells (Value.int .i64 0).cells k = mc at hmk HSRC HNEW hmsz
        have hcp := run_copy_row (P := Try.prog) (wr.alloc (.cells mc 2)) 25 25 3 2 wr.heap.size 0 k k ⟨g, 0, none⟩ k ac mc 2 (ds.map (.int .i64)) Try.underlying25 hsz HNEW.out (by simp [HDL.out]) HSRC.out (by simp [HDL.out]; omega) (by intro u hu; obtain ⟨x, _, rfl⟩ := List.mem_map.1 hu; rfl)
        have hrw : (mc.toList.take 0 ++ ds.map (Value.int .i64) ++ mc.toList.drop (0 + (ds.map (Value.int .i64)).length)).toArray = (ds.map (Value.int .i64)).toArray := by
          rw [List.drop_of_length_le (by simp [HDL.out, hmsz])]; simp
        rw [hrw] at hcp
        clear hrw
        have hP5 : Pure w ((wr.alloc (.cells mc 2)).setRow wr.heap.size (ds.map (Value.int .i64)).toArray) := by
          refine HPP.out.trans ⟨rfl, rfl, rfl, by simp [World.setRow], fun k hk _ => ?_⟩
          rw [setRow_other _ _ _ _ (by omega)]; exact Below.heap_alloc _ _ _ hk
        have hF5 : Fresh w (.slice (some ⟨wr.heap.size, 0, none⟩) k k) ds ((wr.alloc (.cells mc 2)).setRow wr.heap.size (ds.map (Value.int .i64)).toArray) := by
          unfold Fresh
          rw [HDL.out]
          exact ⟨by simp [HDL.out], .inr ⟨wr.heap.size, k, _, rfl, HPP.out.size, setRow_heap _ _ _ _ _ _ HNEW.out, Nat.le_refl _, by unfold maxLen; omega, by simp [HDL.out], by rw [List.take_of_length_le (by simp [HDL.out])]⟩⟩
        have HP5 := Lib.hid hP5; have HF5 := Lib.hid hF5; clear hP5 hF5
        go_wp2
        go_ret2
        exact ⟨_, by rw [HF.out]; rfl, by rw [HF.out]; exact HF5.out, HP5.out⟩
  · go_wp2
    go_ret2
    refine ⟨_, by unfold boardR; rw [HC.out, if_pos h0]; rfl, ?_, Q1.out⟩
    unfold boardR; rw [HC.out, if_pos h0]; exact World.ownsRow_nil _ _ _ _
end Go.Proofs.Ytngkmfddamaegaa
