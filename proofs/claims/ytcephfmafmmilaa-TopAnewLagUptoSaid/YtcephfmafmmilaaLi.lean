/-
  lazy.
-/
import Derived.Test.YtcephfmafmmilaaLh
namespace Go.Proofs.Ytcephfmafmmilaa
open Go.RowKit Go.Shelf

def lazyTo (c A : List Int) (t u : Nat) : Int := (List.range u).foldl (fun n u => min n (nAt A u + least1 c (t - u))) (nAt A t)
theorem lazyTo_succ (c A : List Int) (t u : Nat) : lazyTo c A t (u + 1) = min (lazyTo c A t u) (nAt A u + least1 c (t - u)) := by unfold lazyTo; rw [List.range_succ, List.foldl_append]; rfl
def lazyPart (c A : List Int) (t : Nat) : List Int := (List.range A.length).map fun i => if i < t then lazyAt c A i else nAt A i
theorem lazyPart_len (c A : List Int) (t : Nat) : (lazyPart c A t).length = A.length := by simp [lazyPart]
theorem lazyPart_zero (c A : List Int) : lazyPart c A 0 = A := by
  apply List.ext_getElem
  · simp [lazyPart]
  · intro i h1 h2
    simp [lazyPart, nAt, h2]
theorem lazyPart_set (c A : List Int) (t : Nat) (h : t < A.length) : (lazyPart c A t).set t (lazyTo c A t 0) = lazyPart c A t := by
  apply List.ext_getElem
  · simp [lazyPart]
  · intro i h1 h2
    rw [List.getElem_set]
    split
    · rename_i e; subst e; simp [lazyPart, lazyTo]
    · rfl
theorem lazyPart_next (c A : List Int) (t : Nat) : (lazyPart c A t).set t (lazyTo c A t t) = lazyPart c A (t + 1) := by
  apply List.ext_getElem
  · simp [lazyPart]
  · intro i h1 h2
    rw [List.getElem_set]
    split
    · rename_i e; subst e; simp [lazyPart]; rfl
    · rename_i e
      simp only [lazyPart, List.getElem_map, List.getElem_range]
      by_cases hi : i < t
      · rw [if_pos hi, if_pos (by omega)]
      · rw [if_neg hi, if_neg (by omega)]
theorem lazyPart_all (c A : List Int) : lazyPart c A A.length = lazyOf c A := by
  unfold lazyPart lazyOf
  apply List.map_congr_left
  intro t ht
  rw [if_pos (List.mem_range.1 ht)]
theorem lazyTo_bd {c A : List Int} (hA : ∀ i, 0 ≤ nAt A i ∧ nAt A i ≤ 1000000) (hb : ∀ i, 0 ≤ nAt c i ∧ nAt c i ≤ 100) (t : Nat) : ∀ u, 0 ≤ lazyTo c A t u ∧ lazyTo c A t u ≤ 1000000
  | 0 => hA t
  | u + 1 => by
    have ih := lazyTo_bd hA hb t u
    have h1 := hA u
    have h2 := least1_bd hb (t - u)
    rw [lazyTo_succ]; omega

set_option maxHeartbeats 4000000 in
set_option maxRecDepth 100000 in
theorem lazy_any (D D' : Nat → Prop) (v v' : Value) (c A : List Int) (w : World) (hv : Ints D w v c) (hv' : Ints D' w v' A) (h1 : 1 ≤ c.length) (hb : ∀ i, 0 ≤ nAt c i ∧ nAt c i ≤ 100) (hA : ∀ i, 0 ≤ nAt A i ∧ nAt A i ≤ 1000000) (hA1 : 1 ≤ A.length) (hA61 : A.length ≤ 61) :
    Calls Try.prog 58 #[v, v'] w fun e w' => e = .returned (.slice (some ⟨w.heap.size, 0, none⟩) A.length A.length) ∧ w'.heap[w.heap.size]? = some (.cells ((lazyOf c A).map (Value.int .i64)).toArray 2 (0, 0)) ∧ Pure w w' := by
  have hR := hv; have hR' := hv'
  obtain ⟨a, n, cap, rfl, hn⟩ : ∃ a n c', v = .slice a n c' ∧ n = c.length := by obtain ⟨a, n, c', h, hl, _⟩ := hv; exact ⟨a, n, c', h, hl⟩
  obtain ⟨a', N, cap', rfl, hN, hc'⟩ : ∃ a n c', v' = .slice a n c' ∧ n = A.length ∧ ∀ i, i < n → ∃ b off, a = some ⟨b, off, none⟩ ∧ D' b ∧ w.cell? ⟨b, off + i, none⟩ = some (.int .i64 (A[i]?.getD 0)) := by obtain ⟨a, n, c', h, hl, _, _, hh⟩ := hv'; exact ⟨a, n, c', h, hl, hh⟩
  rw [← hN] at hA1 hA61 ⊢
  have hbd := fun t u => lazyTo_bd hA hb t u
  have hsu := fun t u => lazyTo_succ c A t u
  have hlb := fun k => least1_bd hb k
  have hLe := fun (k : Nat) (hk : k ≤ 1000) W (hW : Pure w W) => least_any D _ c k W (hR.pure hW) h1 hb hk
  have hset := fun t (h : t < N) => lazyPart_set c A t (by omega)
  have hnext := fun t => lazyPart_next c A t
  have hall : lazyPart c A N = lazyOf c A := by rw [hN]; exact lazyPart_all c A
  have hlen : ∀ t, (lazyPart c A t).length = N := fun t => by rw [lazyPart_len, hN]
  have hz := lazyPart_zero c A
  obtain ⟨i0, hi, hz0, hz1, hz2⟩ := info_parts infoI64
  have HLE := Lib.hid hLe; have HBD := Lib.hid hbd; have HSU := Lib.hid hsu; have HLB := Lib.hid hlb; have HSET := Lib.hid hset; have HNEXT := Lib.hid hnext; have HALL := Lib.hid hall; have HLEN := Lib.hid hlen; have HZ := Lib.hid hz
  have HN := Lib.hid hN; have HC := Lib.hid hc'; have HAB := Lib.hid hA
  clear hLe hbd hsu hlb hset hnext hall hlen hz hN hc' hA hv hv' hR hR' hn h1 hb
  go_enter Try.func58, Try.ntmps58
  go_wp2_with (first
    | (at_make; refine wpList_make_full _ rfl _ _ 22 rfl w.heap.size 2 i0 (.int .i64 0) 1 Try.underlying22 hi hz0 hz1 .i64 .i64 _ _ N rfl rfl rfl rfl (by rw [hz2]; omega) (by unfold maxLen; omega) (Nat.le_refl _) ?_; intro w1 hown hg)
    | (refine wpList_copy_splice rfl (.tmp 11) (.tmp 12) 22 22 rfl 2 Try.underlying22 (by kernel_rfl) (some ⟨w.heap.size, 0, none⟩) a' N N N cap' rfl rfl w.heap.size 0 _ 2 (owns_full hown).1 (A.map (.int .i64)) ?c1 ?c2 ?c3 ?c4 w.heap.size w ?c5 (Nat.le_refl _) ?_))
  case c1 => have := HN.out; simp; omega
  case c2 =>
    intro hp
    obtain ⟨b, off, ha, _, _⟩ := HC.out 0 (by omega)
    refine ⟨⟨b, off, none⟩, ha, fun j x hx => ?_⟩
    have hj : j < A.length := by
      rcases Nat.lt_or_ge j A.length with h | h
      · exact h
      · rw [List.getElem?_eq_none h] at hx; cases hx
    obtain ⟨b', off', ha', _, hcj⟩ := HC.out j (by rw [HN.out]; exact hj)
    rw [ha] at ha'
    simp only [Option.some.injEq, Addr.mk.injEq, and_true] at ha'
    obtain ⟨rfl, rfl⟩ := ha'
    rw [hx] at hcj
    have hcj' : w.cell? ⟨b, off + j, none⟩ = some (.int .i64 x) := by simpa using hcj
    have hcw := (pure_of_grown hg).cell hcj' (fun f => f)
    unfold Addr.add
    split
    · rename_i h0; subst h0; simpa using hcw
    · exact hcw
  case c3 =>
    first | rw [made_zeros] | rw [made_zeros1]
    have := HN.out; simp; omega
  case c4 => intro u hu; obtain ⟨x, _, rfl⟩ := List.mem_map.1 hu; rfl
  case c5 => exact below_of_pure (pure_of_grown hg) (Nat.le_refl _)
  intro w2 hh hbl
  have hh2 := hh.out
  rw [splice_all _ _ (by (first | rw [made_zeros] | rw [made_zeros1]); have := HN.out; simp; omega)] at hh2
  have HH := Lib.hid (show w2.heap[w.heap.size]? = some (.cells ((lazyPart c A 0).map (Value.int .i64)).toArray 2 (0, 0)) from by rw [HZ.out]; exact hh2)
  have HP2 := Lib.hid (pure_of_below hbl)
  clear hh hh2 hbl hown hg
  go_wp2_with fail
  go_loopw [16] (fun i wr => ∃ t : Nat, t ≤ N ∧ i = .int .i64 t ∧ wr.heap[w.heap.size]? = some (.cells ((lazyPart c A t).map (Value.int .i64)).toArray 2 (0, 0)) ∧ Pure w wr) (fun i _ => N - (intOf i).toNat)
  case atStart => exact ⟨0, by omega, rfl, HH.out, HP2.out⟩
  case round =>
    obtain ⟨t, ht, rfl, hh, hP⟩ := hrel
    by_cases hlt : t < N
    · have hse := HSET.out t hlt
      have hne := HNEXT.out t
      have hh0 := hh
      rw [← hse] at hh0
      have HH0 := Lib.hid hh0; have HPP := Lib.hid hP; have HNE := Lib.hid hne
      clear hh hP hse hne hh0
      go_wp2_with fail
      go_loopw [20] (fun i wr => ∃ u : Nat, u ≤ t ∧ i = .int .i64 u ∧ wr.heap[w.heap.size]? = some (.cells (((lazyPart c A t).set t (lazyTo c A t u)).map (Value.int .i64)).toArray 2 (0, 0)) ∧ Pure w wr) (fun i _ => t - (intOf i).toNat)
      case atStart => exact ⟨0, by omega, rfl, HH0.out, HPP.out⟩
      case round =>
        obtain ⟨u, hu, rfl, hh, hP⟩ := hrel
        by_cases hlu : u < t
        · obtain ⟨b, off, rfl, _, c0⟩ := HC.out u (by omega)
          have k0 := hP.cell c0 (fun f => f)
          have kt := arr_get hh t (by rw [List.length_set, HLEN.out]; exact hlt)
          rw [List.getElem?_set_self (by rw [HLEN.out]; exact hlt)] at kt
          have fr : ∀ j, wr.frozen? ⟨w.heap.size, j, none⟩ = false := fun j => arr_frozen hh j
          have hst := arr_store hh t (lazyTo c A t (u + 1))
          rw [List.set_set] at hst
          have hl := HLE.out (t - u) (by omega) 
          have hsu := HSU.out t u
          have hbd := HBD.out t u
          have hlb := HLB.out (t - u)
          have hab := HAB.out u
          obtain ⟨x, hx⟩ : ∃ x, lazyTo c A t u = x := ⟨_, rfl⟩
          obtain ⟨y, hy⟩ : ∃ y, nAt A u = y := ⟨_, rfl⟩
          obtain ⟨z, hz⟩ : ∃ z, least1 c (t - u) = z := ⟨_, rfl⟩
          rw [show A[u]?.getD 0 = y from hy] at k0
          simp only [hx, Option.getD_some] at kt
          rw [hx] at hbd
          rw [hx, hy, hz] at hsu
          rw [hy] at hab
          rw [hz] at hlb
          simp only [hz] at hl
          obtain ⟨q, hq⟩ : ∃ q : Nat, t - u = q := ⟨_, rfl⟩
          rw [hq] at hl
          have eq1 : (t : Int) - u = q := by omega
          have eq2 : IntKind.i64.wrap (q : Int) = q := by rw [IntKind.wrap_i64]; omega
          rw [hsu] at hst
          have HX := Lib.hid hx; have HY := Lib.hid hy; have HZ2 := Lib.hid hz
          have HST := Lib.hid hst; have HL := Lib.hid hl; have HP := Lib.hid hP; have HHW := Lib.hid hh
          have g0 := fun g => grow_cell k0 g; have g1 := fun g => grow_cell kt g
          clear hst hx hy hz hsu c0 hh hP hq
          go_wp2_with fail
          refine mixed_start (by kernel_rfl) ?_
          refine mixed_take [0, 1, 2, 3, 4, 5, 6, 7, 8, 9, 10, 11, 12, 13] (by kernel_rfl) (Only.refl _ _).drew (fun d _ _ _ _ h => by cases d <;> exact h) 5 (by kernel_rfl) ?_
          simp only [picks, List.drop_succ_cons, List.drop_zero, List.take_succ_cons, List.take_zero, List.cons_append, List.nil_append]
          repeat (go_big_quiet_step (fail))
          refine wpQuiet_nil ?_
          refine mixed_force (i := 14) (by kernel_rfl) rfl ?_
          go_wp2_with fail
          refine (hl wr.drew HP.out.drew).mono ?_
          rintro e w5 ⟨rfl, P5⟩
          have P6 := Lib.hid ((Only.refl (fun _ => False) wr).drew.trans P5)
          have fr5 : ∀ j, w5.frozen? ⟨w.heap.size, j, none⟩ = false := fun j => by
            exact arr_frozen (P6.out.heap HHW.out (fun f => f)) j
          clear P5 g0 g1
          by_cases hmn : y + z < x
          · have em : min x (y + z) = y + z := by omega
            have hst2 := HST.out
            rw [em] at hst2
            have k5 := P6.out.heap HHW.out (fun f => f)
            have hst3 := arr_store k5 t (y + z)
            rw [List.set_set] at hst3
            have HSU2 := Lib.hid (show lazyTo c A t (u + 1) = y + z from by rw [HSU.out t u]; have := hmn; rw [HX.out, HY.out, HZ2.out]; omega)
            have HS3 := Lib.hid hst3
            have HO := Lib.hid (Only.setCell (HP.out.trans P6.out) (.inr (Nat.le_refl _)) (p := ⟨w.heap.size, t, none⟩) (.int .i64 (y + z)))
            have kt5 : w5.cell? ⟨w.heap.size, t, none⟩ = some (.int .i64 x) := P6.out.cell kt (fun f => f)
            clear em hst2 k5 hst3 kt k0
            go_wp2_with fail
            refine ⟨P6.out, ?_⟩
            refine mixed_take [15, 16, 17] (by kernel_rfl) P6.out (fun d _ _ _ _ h => by cases d <;> exact h) 1 (by kernel_rfl) ?_
            simp only [picks, List.drop_succ_cons, List.drop_zero, List.take_succ_cons, List.take_zero, List.cons_append, List.nil_append]
            repeat (go_big_quiet_step (fail))
            refine wpQuiet_nil ?_
            refine mixed_last (i := 18) (by kernel_rfl) rfl (by kernel_rfl) (by kernel_rfl) ?_
            go_wp2
            go_roundw
            case rel => exact ⟨u + 1, by omega, by go_num, by rw [HSU2.out]; exact HS3.out, HO.out⟩
            case measure => simp [intOf]; omega
          · have em : min x (y + z) = x := by omega
            have k5 := P6.out.heap HHW.out (fun f => f)
            have hst3 := arr_store k5 t x
            rw [List.set_set] at hst3
            have HSU2 := Lib.hid (show lazyTo c A t (u + 1) = x from by rw [HSU.out t u]; rw [HX.out, HY.out, HZ2.out]; omega)
            have HS3 := Lib.hid hst3
            have HO := Lib.hid (Only.setCell (HP.out.trans P6.out) (.inr (Nat.le_refl _)) (p := ⟨w.heap.size, t, none⟩) (.int .i64 x))
            have kt5 : w5.cell? ⟨w.heap.size, t, none⟩ = some (.int .i64 x) := P6.out.cell kt (fun f => f)
            clear em k5 hst3 kt k0
            go_wp2_with fail
            refine ⟨P6.out, ?_⟩
            refine mixed_take [15, 16, 17] (by kernel_rfl) P6.out (fun d _ _ _ _ h => by cases d <;> exact h) 1 (by kernel_rfl) ?_
            simp only [picks, List.drop_succ_cons, List.drop_zero, List.take_succ_cons, List.take_zero, List.cons_append, List.nil_append]
            repeat (go_big_quiet_step (fail))
            refine wpQuiet_nil ?_
            refine mixed_last (i := 18) (by kernel_rfl) rfl (by kernel_rfl) (by kernel_rfl) ?_
            go_wp2
            go_roundw
            case rel => exact ⟨u + 1, by omega, by go_num, by rw [HSU2.out]; exact HS3.out, HO.out⟩
            case measure => simp [intOf]; omega
        · obtain rfl : u = t := by omega
          rw [HNE.out] at hh
          have HH9 := Lib.hid hh; have HP := Lib.hid hP
          clear hh hP
          go_wp2
          go_roundw
          case rel => exact ⟨u + 1, by omega, by go_num, HH9.out, HP.out⟩
          case measure => simp [intOf]; omega
    · obtain rfl : t = N := by omega
      rw [HALL.out] at hh
      have HH9 := Lib.hid hh; have HP := Lib.hid hP
      clear hh hP
      go_wp2
      go_ret
      exact ⟨rfl, HH9.out, HP.out⟩
end Go.Proofs.Ytcephfmafmmilaa
