/-
  Whether minutes are a plan: the function.
-/
import Derived.Test.YtbiffhekbnmffaaCe
import Derived.Outline
namespace Go.Proofs.Ytbiffhekbnmffaa
open Go.RowKit

def cntTo (plan : List Int) (k : Nat) : List Int := cntOf (plan.take k)
theorem cntTo_succ (plan : List Int) (k : Nat) (h : k < plan.length) : cntTo plan (k + 1) = cntStep (cntTo plan k) (plan[k]?.getD 0) := by
  unfold cntTo cntOf
  rw [List.take_add_one, List.getElem?_eq_getElem h, List.foldl_append]; rfl
theorem cntOf_len (plan : List Int) : (cntOf plan).length = 61 := by
  unfold cntOf
  generalize h : List.replicate 61 (0 : Int) = c
  have hc : c.length = 61 := by rw [← h]; simp
  clear h
  induction plan generalizing c with
  | nil => exact hc
  | cons x r ih => exact ih _ (by unfold cntStep; simpa using hc)
theorem cntTo_len (plan : List Int) (k : Nat) : (cntTo plan k).length = 61 := cntOf_len _
theorem cntTo_all (plan : List Int) (k : Nat) (h : plan.length ≤ k) : cntTo plan k = cntOf plan := by unfold cntTo; rw [List.take_of_length_le h]
theorem zeros61 : (List.replicate 61 (0 : Int)).map (Value.int .i64) = (#[Value.int IntKind.i64 0, Value.int IntKind.i64 0, Value.int IntKind.i64 0, Value.int IntKind.i64 0, Value.int IntKind.i64 0, Value.int IntKind.i64 0, Value.int IntKind.i64 0, Value.int IntKind.i64 0, Value.int IntKind.i64 0, Value.int IntKind.i64 0, Value.int IntKind.i64 0, Value.int IntKind.i64 0, Value.int IntKind.i64 0, Value.int IntKind.i64 0, Value.int IntKind.i64 0, Value.int IntKind.i64 0, Value.int IntKind.i64 0, Value.int IntKind.i64 0, Value.int IntKind.i64 0, Value.int IntKind.i64 0, Value.int IntKind.i64 0, Value.int IntKind.i64 0, Value.int IntKind.i64 0, Value.int IntKind.i64 0, Value.int IntKind.i64 0, Value.int IntKind.i64 0, Value.int IntKind.i64 0, Value.int IntKind.i64 0, Value.int IntKind.i64 0, Value.int IntKind.i64 0, Value.int IntKind.i64 0, Value.int IntKind.i64 0, Value.int IntKind.i64 0, Value.int IntKind.i64 0, Value.int IntKind.i64 0, Value.int IntKind.i64 0, Value.int IntKind.i64 0, Value.int IntKind.i64 0, Value.int IntKind.i64 0, Value.int IntKind.i64 0, Value.int IntKind.i64 0, Value.int IntKind.i64 0, Value.int IntKind.i64 0, Value.int IntKind.i64 0, Value.int IntKind.i64 0, Value.int IntKind.i64 0, Value.int IntKind.i64 0, Value.int IntKind.i64 0, Value.int IntKind.i64 0, Value.int IntKind.i64 0, Value.int IntKind.i64 0, Value.int IntKind.i64 0, Value.int IntKind.i64 0, Value.int IntKind.i64 0, Value.int IntKind.i64 0, Value.int IntKind.i64 0, Value.int IntKind.i64 0, Value.int IntKind.i64 0, Value.int IntKind.i64 0, Value.int IntKind.i64 0, Value.int IntKind.i64 0] : Array Value).toList := by rfl
theorem info3 : (Try.prog.info? 3).map (fun i => (i.zero, i.size, i.bytes)) = some (some (.int .i64 0), 1, 8) := by kernel_rfl
theorem counts_eq (c : List Int) (hc : c.length = 61) (w : World) : (Op.equalIn 10000 72 (.agg (c.map (Value.int .i64)).toArray) (.agg #[Value.int IntKind.i64 0, Value.int IntKind.i64 0, Value.int IntKind.i64 0, Value.int IntKind.i64 0, Value.int IntKind.i64 0, Value.int IntKind.i64 0, Value.int IntKind.i64 0, Value.int IntKind.i64 0, Value.int IntKind.i64 0, Value.int IntKind.i64 0, Value.int IntKind.i64 0, Value.int IntKind.i64 0, Value.int IntKind.i64 0, Value.int IntKind.i64 0, Value.int IntKind.i64 0, Value.int IntKind.i64 0, Value.int IntKind.i64 0, Value.int IntKind.i64 0, Value.int IntKind.i64 0, Value.int IntKind.i64 0, Value.int IntKind.i64 0, Value.int IntKind.i64 0, Value.int IntKind.i64 0, Value.int IntKind.i64 0, Value.int IntKind.i64 0, Value.int IntKind.i64 0, Value.int IntKind.i64 0, Value.int IntKind.i64 0, Value.int IntKind.i64 0, Value.int IntKind.i64 0, Value.int IntKind.i64 0, Value.int IntKind.i64 0, Value.int IntKind.i64 0, Value.int IntKind.i64 0, Value.int IntKind.i64 0, Value.int IntKind.i64 0, Value.int IntKind.i64 0, Value.int IntKind.i64 0, Value.int IntKind.i64 0, Value.int IntKind.i64 0, Value.int IntKind.i64 0, Value.int IntKind.i64 0, Value.int IntKind.i64 0, Value.int IntKind.i64 0, Value.int IntKind.i64 0, Value.int IntKind.i64 0, Value.int IntKind.i64 0, Value.int IntKind.i64 0, Value.int IntKind.i64 0, Value.int IntKind.i64 0, Value.int IntKind.i64 0, Value.int IntKind.i64 0, Value.int IntKind.i64 0, Value.int IntKind.i64 0, Value.int IntKind.i64 0, Value.int IntKind.i64 0, Value.int IntKind.i64 0, Value.int IntKind.i64 0, Value.int IntKind.i64 0, Value.int IntKind.i64 0, Value.int IntKind.i64 0])).run Try.prog w = .ok (decide (c = List.replicate 61 0)) w := by
  obtain ⟨i0, hi, hz0, hz1, hz2⟩ := info_parts info3
  have := run_equal_ints (P := Try.prog) w (t := 72) (e := 3) (n := 61) (k := .i64) Try.underlying72 hi Try.underlying3 (by kernel_rfl) (by kernel_rfl) c (List.replicate 61 0) hc (by simp)
  rw [zeros61] at this
  exact this
theorem all_range {n k : Nat} {f : Nat → Bool} (hk : k < n) (hf : f k = false) : (List.range n).all f = false := by
  cases h : (List.range n).all f with
  | false => rfl
  | true => have := List.all_eq_true.1 h k (List.mem_range.2 hk); rw [hf] at this; cases this
theorem all_range_true {n : Nat} {f : Nat → Bool} (h : ∀ j < n, f j = true) : (List.range n).all f = true := List.all_eq_true.2 fun j hj => h j (List.mem_range.1 hj)

/-- The counts under way. -/
def Counting (w : World) (A : Nat) (c : List Int) (W : World) : Prop := W.heap[A]? = some (.cells (c.map (Value.int .i64)).toArray 72 (0, 0)) ∧ Pure w W
theorem counting_start (w : World) : Counting w w.heap.size (cntTo [] 0) (w.alloc (.cells #[Value.int IntKind.i64 0, Value.int IntKind.i64 0, Value.int IntKind.i64 0, Value.int IntKind.i64 0, Value.int IntKind.i64 0, Value.int IntKind.i64 0, Value.int IntKind.i64 0, Value.int IntKind.i64 0, Value.int IntKind.i64 0, Value.int IntKind.i64 0, Value.int IntKind.i64 0, Value.int IntKind.i64 0, Value.int IntKind.i64 0, Value.int IntKind.i64 0, Value.int IntKind.i64 0, Value.int IntKind.i64 0, Value.int IntKind.i64 0, Value.int IntKind.i64 0, Value.int IntKind.i64 0, Value.int IntKind.i64 0, Value.int IntKind.i64 0, Value.int IntKind.i64 0, Value.int IntKind.i64 0, Value.int IntKind.i64 0, Value.int IntKind.i64 0, Value.int IntKind.i64 0, Value.int IntKind.i64 0, Value.int IntKind.i64 0, Value.int IntKind.i64 0, Value.int IntKind.i64 0, Value.int IntKind.i64 0, Value.int IntKind.i64 0, Value.int IntKind.i64 0, Value.int IntKind.i64 0, Value.int IntKind.i64 0, Value.int IntKind.i64 0, Value.int IntKind.i64 0, Value.int IntKind.i64 0, Value.int IntKind.i64 0, Value.int IntKind.i64 0, Value.int IntKind.i64 0, Value.int IntKind.i64 0, Value.int IntKind.i64 0, Value.int IntKind.i64 0, Value.int IntKind.i64 0, Value.int IntKind.i64 0, Value.int IntKind.i64 0, Value.int IntKind.i64 0, Value.int IntKind.i64 0, Value.int IntKind.i64 0, Value.int IntKind.i64 0, Value.int IntKind.i64 0, Value.int IntKind.i64 0, Value.int IntKind.i64 0, Value.int IntKind.i64 0, Value.int IntKind.i64 0, Value.int IntKind.i64 0, Value.int IntKind.i64 0, Value.int IntKind.i64 0, Value.int IntKind.i64 0, Value.int IntKind.i64 0] 72)) := by
  refine ⟨?_, (Only.refl _ w).alloc _⟩
  have h := World.alloc_heap_new w (.cells #[Value.int IntKind.i64 0, Value.int IntKind.i64 0, Value.int IntKind.i64 0, Value.int IntKind.i64 0, Value.int IntKind.i64 0, Value.int IntKind.i64 0, Value.int IntKind.i64 0, Value.int IntKind.i64 0, Value.int IntKind.i64 0, Value.int IntKind.i64 0, Value.int IntKind.i64 0, Value.int IntKind.i64 0, Value.int IntKind.i64 0, Value.int IntKind.i64 0, Value.int IntKind.i64 0, Value.int IntKind.i64 0, Value.int IntKind.i64 0, Value.int IntKind.i64 0, Value.int IntKind.i64 0, Value.int IntKind.i64 0, Value.int IntKind.i64 0, Value.int IntKind.i64 0, Value.int IntKind.i64 0, Value.int IntKind.i64 0, Value.int IntKind.i64 0, Value.int IntKind.i64 0, Value.int IntKind.i64 0, Value.int IntKind.i64 0, Value.int IntKind.i64 0, Value.int IntKind.i64 0, Value.int IntKind.i64 0, Value.int IntKind.i64 0, Value.int IntKind.i64 0, Value.int IntKind.i64 0, Value.int IntKind.i64 0, Value.int IntKind.i64 0, Value.int IntKind.i64 0, Value.int IntKind.i64 0, Value.int IntKind.i64 0, Value.int IntKind.i64 0, Value.int IntKind.i64 0, Value.int IntKind.i64 0, Value.int IntKind.i64 0, Value.int IntKind.i64 0, Value.int IntKind.i64 0, Value.int IntKind.i64 0, Value.int IntKind.i64 0, Value.int IntKind.i64 0, Value.int IntKind.i64 0, Value.int IntKind.i64 0, Value.int IntKind.i64 0, Value.int IntKind.i64 0, Value.int IntKind.i64 0, Value.int IntKind.i64 0, Value.int IntKind.i64 0, Value.int IntKind.i64 0, Value.int IntKind.i64 0, Value.int IntKind.i64 0, Value.int IntKind.i64 0, Value.int IntKind.i64 0, Value.int IntKind.i64 0] 72)
  exact h
theorem counting_pure {w W W' : World} {A : Nat} {c : List Int} (h : Counting w A c W) (hp : Pure W W') : Counting w A c W' := ⟨hp.heap h.1 (fun f => f), h.2.trans hp⟩
theorem counting_step {w W : World} {A : Nat} {plan : List Int} {k : Nat} (h : Counting w A (cntTo plan k) W) (hA : w.heap.size ≤ A) (hk : k < plan.length) (j : Nat) (hj : plan[k]?.getD 0 = j) :
    Counting w A (cntTo plan (k + 1)) (W.setCell ⟨A, j, none⟩ (.int .i64 (wrap64 ((cntTo plan k)[j]?.getD 0 + 1)))) := by
  refine ⟨?_, h.2.trans' ((Only.refl (fun i => i = A) W).setCell (.inl rfl) _) (fun i hi e => by omega)⟩
  have := arr_store h.1 j (wrap64 ((cntTo plan k)[j]?.getD 0 + 1))
  rw [cntTo_succ plan k hk, hj]
  exact this

set_option maxHeartbeats 4000000 in
set_option maxRecDepth 100000 in
theorem checkPlan_any (D D' : Nat → Prop) (pv pl : Value) (h : Hall) (k : Int) (plan : List Int) (w : World) (hv : People D w pv h.people) (hp : Ints D' w pl plan) :
    Calls Try.prog 11 #[.agg #[.int .i64 h.minutes, pv], .int .i64 k, pl] w fun e w' => e = .returned (.int .i64 (checkPlan h k plan)) ∧ Pure w w' := by
  have hR := hv
  obtain ⟨a, len, cap, rfl, hlen, _, hm, _⟩ := hv
  obtain ⟨pa, plen, pcap, rfl, hplen, _, hpm, hpc⟩ := hp
  have hP0 : Pure w (w.alloc (Obj.cells #[.int .i64 h.minutes, .slice a len cap] 24)) := (Only.refl _ w).alloc _
  have hC := staffed_any D (.slice a len cap) h k _ (hR.pure hP0)
  have hS := @staffed_of h k
  have hdef : checkPlan h k plan = if staffedE h k ≠ 0 then staffedE h k else if plan.length ≠ h.people.length then 15 else if (List.range h.people.length).all (planOk h plan) = false then 16
    else if (cntOf plan).set 0 0 = List.replicate 61 0 ∨ maxOf ((cntOf plan).set 0 0) ≤ k then 0 else 23 := rfl
  obtain ⟨s, hs⟩ : ∃ s, staffedE h k = s := ⟨_, rfl⟩
  rw [hs] at hC hS hdef
  obtain ⟨R, hRR⟩ : ∃ R, checkPlan h k plan = R := ⟨_, rfl⟩
  rw [hRR] at hdef ⊢
  have HD := Lib.hid hdef; have HS := Lib.hid hS; have HL := Lib.hid hlen; have HPL := Lib.hid hplen; have HPC := Lib.hid hpc
  clear hs hRR hdef hS hlen hplen hpc hR
  go_enter Try.func11, Try.ntmps11
  go_wp2_with fail
  refine hC.mono ?_
  rintro e w1 (⟨h0, rfl, P1⟩ | ⟨rfl, b, rfl, hb, hF, P1⟩)
  · have Q1 := hP0.trans P1
    clear hC P1 hP0
    go_wp2
    go_ret
    exact ⟨by rw [HD.out, if_pos h0]; rfl, Q1⟩
  · have d1 := P1.cell (p := ⟨w.heap.size, 1, none⟩) (v := .slice a len cap) (by simp) (fun f => f)
    have Q1 := hP0.trans P1
    have HF := Lib.hid hF
    have hval := HS.out rfl
    obtain ⟨v1, v60, v30, vall⟩ := valid_of hval.1
    have HV := Lib.hid vall
    clear hC P1 hP0 hF hval vall
    by_cases hne : plen = len
    · subst hne
      have hst := counting_start w1
      have HST := Lib.hid hst; clear hst
      have hsz := Q1.size
      go_wp2_with fail
      go_loopw [33] (fun i wr => ∃ q : Nat, q ≤ plen ∧ i = .int .i64 q ∧ (∀ j < q, planOk h plan j = true) ∧ Counting w1 w1.heap.size (cntTo plan q) wr) (fun i _ => plen - (intOf i).toNat)
      case atStart => exact ⟨0, Nat.zero_le _, rfl, fun j hj => by omega, HST.out⟩
      case round =>
        obtain ⟨q, hq, rfl, hok, hCo⟩ := hrel
        have HOK := Lib.hid hok; have HCO := Lib.hid hCo
        clear hok hCo HST
        by_cases hlt : q < plen
        · obtain ⟨g, off, rfl, _, c0⟩ := HPC.out q hlt
          have c1 := (Q1.trans HCO.out.2).cell c0 (fun f => f)
          have hW := window_any D b h q wr (HF.out.pure HCO.out.2) (by rw [← HL.out]; exact hlt)
          have hbd := window_bd (HV.out q (by rw [← HL.out]; exact hlt))
          have hpo : planOk h plan q = withinB (windowP (pAt h.people q)).1 (windowP (pAt h.people q)).2 [plan[q]?.getD 0] := rfl
          obtain ⟨⟨la, un⟩, hwi⟩ : ∃ p, windowP (pAt h.people q) = p := ⟨_, rfl⟩
          obtain ⟨x, hx⟩ : ∃ x, plan[q]?.getD 0 = x := ⟨_, rfl⟩
          rw [hwi] at hW hbd hpo
          rw [hx] at c1 hpo
          have HX := Lib.hid hx; have HPO := Lib.hid hpo
          clear hwi hx hpo c0
          dsimp only at hbd hW
          go_wp2_with fail
          refine hW.mono ?_
          rintro e w2 ⟨rfl, P2⟩
          have HC2 := Lib.hid (counting_pure HCO.out P2)
          clear hW P2 c1 HCO
          go_wp2_with fail
          refine (within_one la un x _ _ (by simp)).mono ?_
          rintro e w3 ⟨rfl, P3⟩
          have HC3 := Lib.hid (counting_pure HC2.out P3.of_alloc)
          clear P3 HC2
          cases hwi : withinB la un [x] with
          | false =>
            have HW := Lib.hid hwi; clear hwi
            go_wp2
            go_ret
            exact ⟨by rw [HD.out, if_neg (by simp), if_neg (by rw [← HPL.out, ← HL.out]; simp), if_pos (all_range (k := q) (by rw [← HL.out]; exact hlt) (by rw [HPO.out, HW.out]))]; rfl, Q1.trans HC3.out.2⟩
          | true =>
            have hxb := within1.1 hwi
            have HW := Lib.hid hwi; clear hwi
            obtain ⟨j, rfl⟩ : ∃ j : Nat, x = j := ⟨x.toNat, by omega⟩
            have hj : j < (cntTo plan q).length := by rw [cntTo_len]; omega
            have k0 := arr_get HC3.out.1 j hj
            have f0 := arr_frozen HC3.out.1 j
            have HC4 := Lib.hid (counting_step HC3.out (Nat.le_refl _) (by rw [← HPL.out]; exact hlt) j HX.out)
            have hj61 : j < 61 := by rw [cntTo_len] at hj; exact hj
            obtain ⟨c, hc⟩ : ∃ c, (cntTo plan q)[j]?.getD 0 = c := ⟨_, rfl⟩
            rw [hc] at k0 HC4
            clear hj hc
            go_wp2
            go_roundw
            case rel => exact ⟨q + 1, by omega, by go_num, (fun j hj => by rcases (by omega : j < q ∨ j = q) with h | rfl; exact HOK.out j h; rw [HPO.out, HW.out]), HC4.out⟩
            case measure => simp [intOf]; omega
        · have hqe : q = plen := by omega
          have hcnt : cntTo plan q = cntOf plan := cntTo_all plan q (by rw [← HPL.out]; omega)
          have hh := HCO.out.1
          rw [hcnt] at hh
          obtain ⟨wc, hrun, hO, hhc⟩ := run_clear_row (P := Try.prog) wr 28 3 0 (.int .i64 0) Try.underlying28 (Try.zeroValue3 _) rfl rfl w1.heap.size 0 1 61 _ 72 hh (by decide) (by simp [cntOf_len])
          have hset : (((cntOf plan).map (Value.int .i64)).toArray.toList.take 0 ++ List.replicate 1 (Value.int .i64 0) ++ ((cntOf plan).map (Value.int .i64)).toArray.toList.drop (0 + 1)).toArray = (((cntOf plan).set 0 0).map (Value.int .i64)).toArray := by
            have := cntOf_len plan
            cases hcc : cntOf plan with
            | nil => rw [hcc] at this; simp at this
            | cons y r => simp
          rw [hset] at hhc
          have hlen61 : ((cntOf plan).set 0 0).length = 61 := by rw [List.length_set]; exact cntOf_len plan
          obtain ⟨c, hc⟩ : ∃ c, (cntOf plan).set 0 0 = c := ⟨_, rfl⟩
          rw [hc] at hhc hlen61
          have heq := counts_eq c hlen61
          have HSZ := Lib.hid (show (Try.prog.info? 72).map (·.size) = some (c.map (Value.int .i64)).toArray.size from by rw [List.size_toArray, List.length_map, hlen61]; kernel_rfl)
          have hPc : Pure w1 wc := HCO.out.2.trans' hO (fun i hi e => by omega)
          have hmax := max_any (fun k => k = w1.heap.size) (.slice (some ⟨w1.heap.size, 0, none⟩) 61 61) c wc (ints_block c 61 61 hhc hlen61.symm (Nat.le_refl _) (by rw [List.take_of_length_le (by simp [hlen61])]) (by decide)) (by rw [hlen61]; decide)
          have HH := Lib.hid hhc; have HPc := Lib.hid hPc
          have HD2 := Lib.hid (show R = if c = List.replicate 61 0 ∨ maxOf c ≤ k then 0 else 23 by
            rw [HD.out, if_neg (by simp), if_neg (by rw [← HPL.out, ← HL.out]; simp), if_neg (by rw [all_range_true (fun j hj => HOK.out j (by rw [← HL.out] at hj; omega))]; simp), hc])
          clear hh hO hset hlen61 hc hcnt hhc hPc
          obtain ⟨mx, hmx⟩ : ∃ m, maxOf c = m := ⟨_, rfl⟩
          rw [hmx] at hmax HD2
          clear hmx
          by_cases hz : c = List.replicate 61 0
          · have hz' : decide (c = List.replicate 61 0) = true := by simpa using hz
            simp only [hz'] at heq
            have HZ := Lib.hid hz; clear hz hz'
            clear hmax
            go_wp2_with (refine wpList_load_row rfl 72 _ rfl w1.heap.size rfl 72 _ _ _ HH.out Try.underlying72 rfl HSZ.out ?_)
            go_ret
            exact ⟨by rw [HD2.out, if_pos (.inl HZ.out)]; rfl, Q1.trans HPc.out⟩
          · have hz' : decide (c = List.replicate 61 0) = false := by simpa using hz
            simp only [hz'] at heq
            have HZ := Lib.hid hz; clear hz hz'
            go_wp2_with (refine wpList_load_row rfl 72 _ rfl w1.heap.size rfl 72 _ _ _ HH.out Try.underlying72 rfl HSZ.out ?_)
            refine hmax.mono ?_
            rintro e wm ⟨rfl, Pm⟩
            have Qm := Lib.hid (Q1.trans (HPc.out.trans Pm))
            clear hmax Pm
            by_cases hle : mx ≤ k
            · go_wp2
              go_ret
              exact ⟨by rw [HD2.out, if_pos (.inr hle)]; rfl, Qm.out⟩
            · go_wp2
              go_ret
              exact ⟨by rw [HD2.out, if_neg (fun hh => by rcases hh with hh | hh; exact HZ.out hh; omega)]; rfl, Qm.out⟩
    · have hne' : (plen : Int) ≠ len := by omega
      go_wp2
      go_ret
      exact ⟨by rw [HD.out, if_neg (by simp), if_pos (by rw [← HPL.out, ← HL.out]; exact hne)]; rfl, Q1⟩
end Go.Proofs.Ytbiffhekbnmffaa
