/-
  The first parts into which turns are cut.
-/
import Derived.Test.YtcephfmafmmilaaLs
import Derived.Test.YtcephfmafmmilaaSeqs
import Derived.WalkMore
namespace Go.Proofs.Ytcephfmafmmilaa
open Go.RowKit Go.Shelf
attribute [local go_sem] Oper.semAt_some

theorem cuts_any (v : Value) (T : Int) (w : World) :
    Calls Try.prog 71 #[.agg #[v], .int .i64 T] w fun e w' => e = .returned (.func (.func 82) #[] #[.pointer (some ⟨w.heap.size, 0, none⟩), .pointer (some ⟨w.heap.size + 1, 0, none⟩)]) ∧ w' = (w.alloc (.cells #[v] 93)).alloc (.cells #[.int .i64 T] 3) := by
  go_enter Try.func71, Try.ntmps71
  go_wp2
  go_ret
  exact ⟨rfl, rfl⟩

def cutsTo (c : List Int) (k : Nat) : List (Int × Int) := (List.range k).map fun (i : Nat) => ((i : Int) + 1, nAt c i)
def cutsOf (c : List Int) (T : Nat) : List (Int × Int) := cutsTo c (min c.length T)
theorem cutsTo_succ (c : List Int) (k : Nat) : cutsTo c (k + 1) = cutsTo c k ++ [((k : Int) + 1, nAt c k)] := by simp [cutsTo, List.range_succ]
theorem cutsTo_prefix (c : List Int) {k T : Nat} (h : k ≤ min c.length T) : cutsTo c k <+: cutsOf c T := by
  obtain ⟨d, hd⟩ := Nat.exists_eq_add_of_le h
  unfold cutsOf; rw [hd]; unfold cutsTo
  rw [List.range_add, List.map_append]; exact ⟨_, rfl⟩

set_option maxHeartbeats 2000000 in
set_option maxRecDepth 100000 in
theorem cuts1_stops (n B1 B2 : Nat) (D : Nat → Prop) (v : Value) (c : List Int) (T : Nat) (w : World) (hn : 2 ≤ n) (hc6 : c.length ≤ 6) (h1 : w.cell? ⟨B1, 0, none⟩ = some v) (h2 : w.cell? ⟨B2, 0, none⟩ = some (.int .i64 T)) (hv : Ints D w v c) :
    SeqStopsK Fence.wide n Try.prog 82 #[.pointer (some ⟨B1, 0, none⟩), .pointer (some ⟨B2, 0, none⟩)] (fun t : Int × Int => #[.int .i64 t.1, .int .i64 t.2]) (KeepC (fun k => k = B2 ∨ D k)) (fun l => l = cutsOf c T) (fun l => l <+: cutsOf c T) (c.length + 1) w := by
  intro l J Jx W hW hJ hJx hY h0
  have hO : Only (fun k => w.heap.size ≤ k) w W := Only.below hW
  have k1 : W.cell? ⟨B1, 0, none⟩ = some v := (hW.cell (World.block_lt_of_cell? w _ h1)).trans h1
  have k2 : W.cell? ⟨B2, 0, none⟩ = some (.int .i64 T) := (hW.cell (World.block_lt_of_cell? w _ h2)).trans h2
  have hv2 := hv.fresh.keep hO (fun k hk h => by omega)
  replace hv2 : Ints D W v c := hv2.any (fun k hk => hk.1)
  obtain ⟨a, m, cap, rfl, hm, hmc, hmax, hcell⟩ := hv2
  clear h1 h2 hv hO hW
  refine callsIn_of_wp Try.func82 rfl trivial ?_ rfl
  simp only [Try.ntmps82, List.size_toArray, List.length_cons, List.length_nil, Nat.reduceAdd, Nat.reduceSub, Array.replicate_succ, Array.replicate_zero, List.push_toArray, List.append_toArray, List.nil_append, List.cons_append]
  have HJ := Lib.hid h0; have HY := Lib.hid hY; have HC := Lib.hid hcell; have HM := Lib.hid hm
  have hm6 : m ≤ 6 := by omega
  clear h0 hY hcell hm hJ hJx
  gi_wp2
  have K2 := Lib.hid k2
  clear k1 k2
  gi_loopw [9] (fun i wr => ∃ k : Nat, k ≤ m ∧ k ≤ T ∧ i = .int .i64 k ∧ Hid (J (cutsTo c k) wr) ∧ Hid (wr.cell? ⟨B2, 0, none⟩ = some (.int .i64 T)) ∧ Hid (∀ i, i < m → ∃ b off, a = some ⟨b, off, none⟩ ∧ D b ∧ wr.cell? ⟨b, off + i, none⟩ = some (.int .i64 (c[i]?.getD 0)))) (fun i _ => m - (intOf i).toNat)
  case atStart => exact ⟨0, Nat.zero_le _, Nat.zero_le _, rfl, HJ, K2, HC⟩
  case round =>
    clear HJ K2 HC
    obtain ⟨k, hk, hkT, rfl, hJ, h2, hC⟩ := hrel
    by_cases hlt : k < m
    · obtain ⟨b, off, rfl, hD, c0⟩ := hC.out k hlt
      have k2 := h2.out
      obtain ⟨y, hy⟩ : ∃ y, nAt c k = y := ⟨_, rfl⟩
      rw [show c[k]?.getD 0 = y from hy] at c0
      by_cases hT : k < T
      · have hd : decide ((k : Int) ≥ (T : Int)) = false := by simp; omega
        have hd' : decide ((T : Int) ≤ (k : Int)) = false := by simp; omega
        obtain ⟨fn, tmps, assign, body, hy2, hR⟩ := HY.out (cutsTo c k) ((k : Int) + 1, y) wr hJ.out (by have := HM.out; simp [cutsTo]; omega)
        dsimp only at hy2
        have HT := Lib.hid hy
        clear hy
        have HT' := HT
        gi_wp2
        refine ⟨fun _ => by omega, hR.mono ?_⟩
        rintro e W3 (⟨rfl, hJ3, hk3⟩ | ⟨rfl, hJx3⟩)
        · have h23 := Lib.hid (hk3 _ _ (.inl rfl) h2.out)
          have hC3 := Lib.hid (show ∀ i, i < m → ∃ b' off', some (⟨b, off, none⟩ : Addr) = some ⟨b', off', none⟩ ∧ D b' ∧ W3.cell? ⟨b', off' + i, none⟩ = some (.int .i64 (c[i]?.getD 0)) from fun i hi => by
            obtain ⟨b', o', e, d, r⟩ := hC.out i hi; exact ⟨b', o', e, d, hk3 _ _ (.inr d) r⟩)
          have hJ4 := Lib.hid (show J (cutsTo c (k + 1)) W3 from by rw [cutsTo_succ, HT.out]; exact hJ3)
          clear hJ h2 hC hk3 hJ3 hy2
          gi_wp2
          go_roundw
          case rel => exact ⟨k + 1, by omega, by omega, by go_num, hJ4, h23, hC3⟩
          case measure => simp [intOf]; omega
        · have hJ4 := Lib.hid (show Jx (cutsTo c (k + 1)) W3 from by rw [cutsTo_succ, HT.out]; exact hJx3)
          have HPR := Lib.hid (cutsTo_prefix c (k := k + 1) (T := T) (by have := HM.out; omega))
          clear hJ h2 hC hJx3 hy2
          gi_wp2
          refine bodyPost_ret (results_none rfl _ _ _) rfl ?_
          exact ⟨⟨_, rfl⟩, .inr ⟨_, HPR.out, hJ4.out⟩⟩
      · obtain rfl : k = T := by omega
        have hd : decide ((k : Int) ≥ (k : Int)) = true := by simp
        have HS := Lib.hid (show cutsTo c k = cutsOf c k from by unfold cutsOf; rw [← HM.out, Nat.min_eq_right (by omega)])
        have HJ := Lib.hid hJ.out
        clear hJ h2 hC
        gi_wp2
        repeat (refine ⟨fun _ h => (by cases h), ?_⟩; gi_wp2)
        refine bodyPost_ret (results_none rfl _ _ _) rfl ?_
        exact ⟨⟨_, rfl⟩, .inl ⟨_, HS.out, HJ.out⟩⟩
    · obtain rfl : m = k := by omega
      have HS := Lib.hid (show cutsTo c m = cutsOf c T from by unfold cutsOf; rw [← HM.out, Nat.min_eq_left (by omega)])
      have HJ := Lib.hid hJ.out
      clear hJ h2 hC
      gi_wp2
      go_end0
      exact ⟨⟨_, rfl⟩, .inl ⟨_, HS.out, HJ.out⟩⟩
end Go.Proofs.Ytcephfmafmmilaa
