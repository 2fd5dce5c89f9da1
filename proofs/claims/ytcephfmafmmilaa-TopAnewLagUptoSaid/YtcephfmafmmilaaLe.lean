/-
  rate.
-/
import Derived.Test.YtcephfmafmmilaaLd
namespace Go.Proofs.Ytcephfmafmmilaa
open Go.RowKit Go.Shelf

theorem ratio_bd {num den : Int} (h0 : 0 ≤ num) (h1 : 1 ≤ den) : 0 ≤ (ratioOf num den).1 ∧ (ratioOf num den).1 ≤ num ∧ 0 ≤ (ratioOf num den).2 ∧ (ratioOf num den).2 ≤ den := by
  unfold ratioOf
  exact ⟨Int.ediv_nonneg h0 (Int.natCast_nonneg _), Int.ediv_le_self _ h0, Int.ediv_nonneg (by omega) (Int.natCast_nonneg _), Int.ediv_le_self _ (by omega)⟩
def rateTo (c : List Int) (comes : Bool) (k : Nat) : Int × Int := (List.range k).foldl (rateStep c comes) (ratioOf (nAt c (c.length - 1)) c.length)
theorem rateTo_succ (c : List Int) (comes : Bool) (k : Nat) : rateTo c comes (k + 1) = rateStep c comes (rateTo c comes k) k := by unfold rateTo; rw [List.range_succ, List.foldl_append]; rfl
theorem rateTo_bd {c : List Int} (comes : Bool) (h1 : 1 ≤ c.length) (h6 : c.length ≤ 6) (hb : ∀ i, 0 ≤ nAt c i ∧ nAt c i ≤ 100) (k : Nat) (hk : k ≤ 6) : 0 ≤ (rateTo c comes k).1 ∧ (rateTo c comes k).1 ≤ 1000 ∧ 0 ≤ (rateTo c comes k).2 ∧ (rateTo c comes k).2 ≤ 1000 := by
  induction k with
  | zero => have := ratio_bd (hb (c.length - 1)).1 (den := c.length) (by omega); have := hb (c.length - 1); unfold rateTo; simp only [List.range_zero, List.foldl_nil]; omega
  | succ k ih =>
    rw [rateTo_succ]
    unfold rateStep
    split
    · have := ratio_bd (hb k).1 (den := (k : Int) + 1) (by omega); have := hb k; omega
    · exact ih (by omega)

set_option maxHeartbeats 2000000 in
set_option maxRecDepth 100000 in
theorem rate_any (D : Nat → Prop) (v : Value) (c : List Int) (comes : Bool) (w : World) (hv : Ints D w v c) (h1 : 1 ≤ c.length) (h6 : c.length ≤ 6) (hb : ∀ i, 0 ≤ nAt c i ∧ nAt c i ≤ 100) :
    Calls Try.prog 50 #[v, .bool comes] w fun e w' => e = .returned (.agg #[.int .i64 (rateOf c comes).1, .int .i64 (rateOf c comes).2]) ∧ Pure w w' := by
  obtain ⟨a, n, cap, rfl, hn, _, hm, hc⟩ := hv
  have hbd := fun k hk => rateTo_bd (c := c) comes h1 h6 hb k hk
  have hstep := fun k => rateTo_succ c comes k
  have hdef : rateOf c comes = rateTo c comes n := by rw [hn]; rfl
  have h00 : rateTo c comes 0 = ratioOf (nAt c (n - 1)) n := by rw [hn]; rfl
  have hb1 := hb (n - 1)
  obtain ⟨g, off, rfl, _, c1⟩ := hc (n - 1) (by omega)
  obtain ⟨z, hz⟩ : ∃ z, nAt c (n - 1) = z := ⟨_, rfl⟩
  rw [show c[n - 1]?.getD 0 = z from hz] at c1
  rw [hz] at hb1 h00
  obtain ⟨m, hm1⟩ : ∃ m : Nat, n - 1 = m := ⟨_, rfl⟩
  rw [hm1] at c1
  have e1 : (n : Int) - 1 = m := by omega
  have e2 : IntKind.i64.wrap (m : Int) = m := by rw [IntKind.wrap_i64]; omega
  have hmn : m < n := by omega
  have hn6 : n ≤ 6 := by omega
  have hn1 : 1 ≤ n := by omega
  obtain ⟨R, hR⟩ : ∃ R, rateOf c comes = R := ⟨_, rfl⟩
  rw [hR] at hdef ⊢
  have hP0 : Pure w (w.alloc (.cells #[.int .i64 0, .int .i64 0] 42)) := (Only.refl _ w).alloc _
  have hk0 := World.alloc_heap_new w (.cells #[.int .i64 0, .int .i64 0] 42)
  have c1' := hP0.cell c1 (fun f => f)
  have HRA := Lib.hid (fun W => ratio_any z n W hb1.1 (by omega) (by omega) (by omega))
  have HRB := Lib.hid (fun (k : Nat) (hk : k < 6) W => ratio_any (nAt c k) ((k : Int) + 1) W (hb k).1 (by have := hb k; omega) (by omega) (by omega))
  have HBD := Lib.hid hbd; have HST := Lib.hid hstep; have HD := Lib.hid hdef; have H00 := Lib.hid h00; have HC := Lib.hid hc; have HB := Lib.hid hb; have HP0 := Lib.hid hP0; have HK0 := Lib.hid hk0
  clear hbd hstep hdef h00 hc hb hP0 hk0 hn hz hm1 hR h1 h6 c1
  go_enter Try.func50, Try.ntmps50
  go_wp2_with fail
  refine (HRA.out _).mono ?_
  rintro e w1 ⟨rfl, P1⟩
  have hk1 := P1.heap HK0.out (fun f => f)
  have HS1 := lt_of_block hk1
  obtain ⟨o, ho⟩ : ∃ o, ratioOf z n = o := ⟨_, rfl⟩
  have h00 := H00.out
  rw [ho] at h00
  rw [ho]
  have HI0 := Lib.hid h00
  have hbx := World.alloc_heap_new w1 (.cells #[.int .i64 o.1, .int .i64 o.2] 42)
  have hkk := (Below.heap_alloc w1 (.cells #[.int .i64 o.1, .int .i64 o.2] 42) _ HS1).trans hk1
  have HBX := Lib.hid hbx; have HKK := Lib.hid hkk
  have HP1 := Lib.hid ((HP0.out.trans P1).alloc (.cells #[.int .i64 o.1, .int .i64 o.2] 42))
  have hw1 : w.heap.size ≤ w1.heap.size := by omega
  clear hk1 P1 ho h00 hbx hkk c1'
  go_wp2_with fail
  go_loopw [20] (fun i wr => ∃ k : Nat, k ≤ n ∧ i = .int .i64 k ∧ wr.heap[w.heap.size]? = some (.cells #[.int .i64 0, .int .i64 0] 42 (0, 0)) ∧ wr.heap[w1.heap.size]? = some (.cells #[.int .i64 (rateTo c comes k).1, .int .i64 (rateTo c comes k).2] 42 (0, 0)) ∧ Pure w wr) (fun i _ => n - (intOf i).toNat)
  case atStart => exact ⟨0, by omega, rfl, HKK.out, by rw [HI0.out]; exact HBX.out, HP1.out⟩
  case round =>
    obtain ⟨k, hk, rfl, hr0, hr5, hP⟩ := hrel
    have hbd := HBD.out k (by omega)
    have hst := HST.out k
    have hdd : k = n → R = rateTo c comes k := fun h => by rw [h]; exact HD.out
    obtain ⟨o', ho'⟩ : ∃ o', rateTo c comes k = o' := ⟨_, rfl⟩
    rw [ho'] at hr5 hbd hst hdd
    have HR0 := Lib.hid hr0; have HR5 := Lib.hid hr5; have HP := Lib.hid hP; have HST2 := Lib.hid hst; have HDD := Lib.hid hdd
    have hs5 := lt_of_block hr5
    clear ho' hst hdd
    by_cases hlt : k < n
    · obtain ⟨g', off', he, _, c0⟩ := HC.out k hlt
      simp only [Option.some.injEq, Addr.mk.injEq, and_true] at he
      obtain ⟨rfl, rfl⟩ := he
      have k0 := hP.cell c0 (fun f => f)
      have hra := fun W => HRB.out k (by omega) W
      have hby := HB.out k
      obtain ⟨y, hy⟩ : ∃ y, nAt c k = y := ⟨_, rfl⟩
      rw [show c[k]?.getD 0 = y from hy] at k0
      rw [hy] at hby
      simp only [hy] at hra
      have HRA2 := Lib.hid hra
      have hrb := ratio_bd (num := y) (den := (k : Int) + 1) hby.1 (by omega)
      have hst := HST2.out
      unfold rateStep at hst
      rw [hy] at hst
      have e3 : IntKind.i64.wrap ((k : Int) + 1) = (k : Int) + 1 := by rw [IntKind.wrap_i64]; omega
      clear hy c0 hP hr0 hr5 hra
      go_wp2_with fail
      refine (HRA2.out _).mono ?_
      rintro e w2 ⟨rfl, P2⟩
      obtain ⟨q, hq⟩ : ∃ q, ratioOf y ((k : Int) + 1) = q := ⟨_, rfl⟩
      rw [hq] at hst hrb
      rw [hq]
      have Q2 := P2.alloc (.cells #[.int .i64 q.1, .int .i64 q.2] 42)
      have hr0 := Q2.heap HR0.out (fun f => f)
      have hr5 := Q2.heap HR5.out (fun f => f)
      have hr8 := World.alloc_heap_new w2 (.cells #[.int .i64 q.1, .int .i64 q.2] 42)
      have HQ := Lib.hid (HP.out.trans Q2)
      have hs2 : w1.heap.size < w2.heap.size := by have := P2.size; omega
      clear hq P2 Q2 k0
      cases comes with
      | false =>
        have HST3 := Lib.hid (show rateTo c false (k + 1) = o' from by rw [hst]; simp)
        have HR0 := Lib.hid hr0; have HR5 := Lib.hid hr5
        clear hst hr0 hr5 hr8
        go_wp2
        go_roundw
        case rel => exact ⟨k + 1, by omega, by go_num, HR0.out, by rw [HST3.out]; exact HR5.out, HQ.out⟩
        case measure => simp [intOf]; omega
      | true =>
        have d50 : (w2.alloc (.cells #[.int .i64 q.1, .int .i64 q.2] 42)).cell? ⟨w1.heap.size, 0, none⟩ = some (.int .i64 o'.1) := cell_of_row _ _ _ _ _ _ hr5
        have d51 : (w2.alloc (.cells #[.int .i64 q.1, .int .i64 q.2] 42)).cell? ⟨w1.heap.size, 1, none⟩ = some (.int .i64 o'.2) := cell_of_row _ _ _ _ _ _ hr5
        have hg := greater_any o' q (w2.alloc (.cells #[.int .i64 q.1, .int .i64 q.2] 42)) hbd (by omega)
        have HR0 := Lib.hid hr0; have HR5 := Lib.hid hr5; have HR8 := Lib.hid hr8
        clear hr0 hr5 hr8
        go_wp2_with fail
        refine hg.mono ?_
        rintro e w3 ⟨rfl, P3⟩
        have HQ3 := Lib.hid (HQ.out.trans P3)
        have hr0 := P3.heap HR0.out (fun f => f)
        have hr5 := P3.heap HR5.out (fun f => f)
        have hr8 := P3.heap HR8.out (fun f => f)
        clear hg P3 d50 d51
        cases hgb : greaterB o' q with
        | false =>
          have HST3 := Lib.hid (show rateTo c true (k + 1) = o' from by rw [hst, hgb]; simp)
          have HR0 := Lib.hid hr0; have HR5 := Lib.hid hr5
          clear hst hr0 hr5 hr8 hgb
          go_wp2
          go_roundw
          case rel => exact ⟨k + 1, by omega, by go_num, HR0.out, by rw [HST3.out]; exact HR5.out, HQ3.out⟩
          case measure => simp [intOf]; omega
        | true =>
          have HST3 := Lib.hid (show rateTo c true (k + 1) = q from by rw [hst, hgb]; simp)
          have d50 : w3.cell? ⟨w1.heap.size, 0, none⟩ = some (.int .i64 o'.1) := cell_of_row _ _ _ _ _ _ hr5
          have d51 : w3.cell? ⟨w1.heap.size, 1, none⟩ = some (.int .i64 o'.2) := cell_of_row _ _ _ _ _ _ hr5
          have d80 : w3.cell? ⟨w2.heap.size, 0, none⟩ = some (.int .i64 q.1) := cell_of_row _ _ _ _ _ _ hr8
          have d81 : w3.cell? ⟨w2.heap.size, 1, none⟩ = some (.int .i64 q.2) := cell_of_row _ _ _ _ _ _ hr8
          have f5 : ∀ j, w3.frozen? ⟨w1.heap.size, j, none⟩ = false := fun j => arr_frozen hr5 j
          have s1 := heap_setCell_same _ _ 0 _ _ (.int .i64 q.1) hr5
          have s2 := heap_setCell_same _ _ 1 _ _ (.int .i64 q.2) s1
          have HS2 := Lib.hid s2
          have hne : w.heap.size ≠ w1.heap.size := by omega
          have HZ := Lib.hid ((Below.heap_setCell _ ⟨w1.heap.size, 1, none⟩ (.int .i64 q.2) w.heap.size hne).trans ((Below.heap_setCell w3 ⟨w1.heap.size, 0, none⟩ (.int .i64 q.1) w.heap.size hne).trans hr0))
          have HO := Lib.hid (Only.setCell (Only.setCell HQ3.out (.inr hw1) (p := ⟨w1.heap.size, 0, none⟩) (.int .i64 q.1)) (.inr hw1) (p := ⟨w1.heap.size, 1, none⟩) (.int .i64 q.2))
          clear hst hr0 hr5 hr8 hgb s1 s2
          go_wp2
          go_roundw
          case rel => exact ⟨k + 1, by omega, by go_num, HZ.out, by rw [HST3.out]; exact HS2.out, HO.out⟩
          case measure => simp [intOf]; omega
    · obtain rfl : k = n := by omega
      have HX := Lib.hid (HDD.out rfl)
      have d50 : wr.cell? ⟨w1.heap.size, 0, none⟩ = some (.int .i64 o'.1) := cell_of_row _ _ _ _ _ _ hr5
      have d51 : wr.cell? ⟨w1.heap.size, 1, none⟩ = some (.int .i64 o'.2) := cell_of_row _ _ _ _ _ _ hr5
      have d0 : wr.cell? ⟨w.heap.size, 0, none⟩ = some (.int .i64 0) := cell_of_row _ _ _ _ _ _ hr0
      have d1 : wr.cell? ⟨w.heap.size, 1, none⟩ = some (.int .i64 0) := cell_of_row _ _ _ _ _ _ hr0
      have f0 : ∀ j, wr.frozen? ⟨w.heap.size, j, none⟩ = false := fun j => arr_frozen hr0 j
      have s1 := heap_setCell_same _ _ 0 _ _ (.int .i64 o'.1) hr0
      have s2 := heap_setCell_same _ _ 1 _ _ (.int .i64 o'.2) s1
      have e0 := cell_of_row _ _ 0 _ _ _ s2
      have e1 := cell_of_row _ _ 1 _ _ _ s2
      simp only [List.setIfInBounds_toArray, List.set_cons_zero, List.set_cons_succ, List.getElem?_toArray, List.getElem?_cons_zero, List.getElem?_cons_succ] at e0 e1
      have HO := Lib.hid (Only.setCell (Only.setCell HP.out (.inr (Nat.le_refl _)) (p := ⟨w.heap.size, 0, none⟩) (.int .i64 o'.1)) (.inr (Nat.le_refl _)) (p := ⟨w.heap.size, 1, none⟩) (.int .i64 o'.2))
      clear s1 s2 hr0 hr5 hP
      go_wp2
      refine bodyPost_ret (v := .agg #[.int .i64 o'.1, .int .i64 o'.2]) ?_ rfl ⟨by rw [HX.out], HO.out⟩
      simp [results, Try.f50, go_sem, e0, e1]
end Go.Proofs.Ytcephfmafmmilaa
