/-
  What each function is asked, twice.
-/
import Derived.Test.YtbiffhekbnmffaaCv
import Derived.Test.YtbiffhekbnmffaaWipe
namespace Go.Proofs.Ytbiffhekbnmffaa
open Go.RowKit

/-- The arguments, in their box. -/
structure ArgsAt (D : Nat → Prop) (w : World) (bx : Nat) (h0 : Hall) (mach : Int) (plan : List Int) (fr til : Int) (truth : List Int) (person minute : Int) (pv plv tv : Value) : Prop where
  box : w.heap[bx]? = some (.cells #[.int .i64 h0.minutes, pv, .int .i64 mach, plv, .int .i64 fr, .int .i64 til, tv, .int .i64 person, .int .i64 minute] 27 (0, 0))
  people : People D w pv h0.people
  plan : Ints D w plv plan
  truth : Ints D w tv truth

theorem ArgsAt.keep {D S : Nat → Prop} {w w' : World} {bx : Nat} {h0 : Hall} {mach : Int} {plan : List Int} {fr til : Int} {truth : List Int} {person minute : Int} {pv plv tv : Value} (h : ArgsAt D w bx h0 mach plan fr til truth person minute pv plv tv)
    (ho : Only S w w') (hd : ∀ k, D k → ¬ S k) (hb : ¬ S bx) : ArgsAt D w' bx h0 mach plan fr til truth person minute pv plv tv :=
  ⟨ho.heap h.box hb, h.people.keep ho hd, h.plan.keep ho hd, h.truth.keep ho hd⟩

theorem ArgsAt.cells {D : Nat → Prop} {w : World} {bx : Nat} {h0 : Hall} {mach : Int} {plan : List Int} {fr til : Int} {truth : List Int} {person minute : Int} {pv plv tv : Value} (h : ArgsAt D w bx h0 mach plan fr til truth person minute pv plv tv) :
    w.cell? ⟨bx, 0, none⟩ = some (.int .i64 h0.minutes) ∧ w.cell? ⟨bx, 1, none⟩ = some pv ∧ w.cell? ⟨bx, 2, none⟩ = some (.int .i64 mach) ∧ w.cell? ⟨bx, 3, none⟩ = some plv ∧ w.cell? ⟨bx, 4, none⟩ = some (.int .i64 fr) ∧
    w.cell? ⟨bx, 5, none⟩ = some (.int .i64 til) ∧ w.cell? ⟨bx, 6, none⟩ = some tv ∧ w.cell? ⟨bx, 7, none⟩ = some (.int .i64 person) ∧ w.cell? ⟨bx, 8, none⟩ = some (.int .i64 minute) :=
  ⟨cell_of_row _ _ _ _ _ _ h.box, cell_of_row _ _ _ _ _ _ h.box, cell_of_row _ _ _ _ _ _ h.box, cell_of_row _ _ _ _ _ _ h.box, cell_of_row _ _ _ _ _ _ h.box, cell_of_row _ _ _ _ _ _ h.box, cell_of_row _ _ _ _ _ _ h.box, cell_of_row _ _ _ _ _ _ h.box, cell_of_row _ _ _ _ _ _ h.box⟩

theorem plan_small (h : Hall) (k : Int) : (planR h k).1.length ≤ 30 := by
  unfold planR
  by_cases hs : staffedE h k = 0
  · have h30 := (valid_of (staffed_of hs).1).2.2.1
    rw [if_neg (by simpa using hs)]
    split
    · simp
    · rw [serveOf_len]; unfold lastsOf; simp; exact h30
  · rw [if_pos hs]; simp
theorem serve_small (h : Hall) (k : Int) (truth : List Int) : (serveR h k truth).1.length ≤ 30 := by
  unfold serveR
  by_cases hs : staffedE h k = 0
  · have h30 := (valid_of (staffed_of hs).1).2.2.1
    rw [if_neg (by simpa using hs)]
    split
    · simp
    · split
      · simp
      · rename_i hl _
        rw [serveOf_len]; simp at hl; omega
  · rw [if_pos hs]; simp

set_option maxHeartbeats 1000000 in
set_option maxRecDepth 100000 in
theorem ask_CheckHall {W : World} {bx : Nat} {h0 : Hall} {mach : Int} {plan : List Int} {fr til : Int} {truth : List Int} {person minute : Int} {pv plv tv : Value} (h : ArgsAt (fun k => k < W.heap.size) W bx h0 mach plan fr til truth person minute pv plv tv) (hbx : bx < W.heap.size) : Asks 6 bx W ([(checkHall h0)]) [] := by
  intro w hb hB hhb hH hI
  have hA := h.keep (Only.below hB) (fun k hk hn => by omega) (by omega)
  obtain ⟨x0, x1, x2, x3, x4, x5, x6, x7, x8⟩ := hA.cells
  have hC := checkHall_any _ _ h0 w hA.people
  obtain ⟨R, hR⟩ : ∃ x, checkHall h0 = x := ⟨_, rfl⟩
  have HR := Lib.hid hR
  rw [hR] at hC ⊢
  clear hR
  have HI := Lib.hid hI; clear hI hB
  obtain ⟨s01, s02, s03, rfl⟩ : ∃ a n c, pv = .slice a n c := by obtain ⟨a, n, c, hh, _⟩ := hA.people; exact ⟨a, n, c, hh⟩
  obtain ⟨s11, s12, s13, rfl⟩ : ∃ a n c, plv = .slice a n c := by obtain ⟨a, n, c, hh, _⟩ := hA.plan; exact ⟨a, n, c, hh⟩
  obtain ⟨s21, s22, s23, rfl⟩ : ∃ a n c, tv = .slice a n c := by obtain ⟨a, n, c, hh, _⟩ := hA.truth; exact ⟨a, n, c, hh⟩
  clear hA
  go_enter Try.func6, Try.ntmps6
  go_wp2_with fail
  refine hC.mono ?_
  rintro e w1 ⟨rfl, P1⟩
  obtain ⟨hS0, hH0⟩ := step_pure hH P1
  clear hC P1
  go_wp2_with fail
  refine (putErrno_any hb (.int .i64 R) (fun _ => False) [] [] [R] [] _ hH0 (fun _ f => f.elim) (.num _ _) (by constructor <;> simp)).mono ?_
  rintro e w2 ⟨rfl, hH1, hT1⟩
  have hS1 := hS0.trans hT1
  have HS := Lib.hid hS1; have HH := Lib.hid hH1
  go_wp2
  go_ret
  exact ⟨9, #[], fun _ => False, rfl, enters_of Try.func9 (by kernel_rfl) rfl, by simpa using HH.out, HS.out, fun _ f => f.elim, nothing_any _⟩

set_option maxHeartbeats 1000000 in
set_option maxRecDepth 100000 in
theorem ask_CheckPlan {W : World} {bx : Nat} {h0 : Hall} {mach : Int} {plan : List Int} {fr til : Int} {truth : List Int} {person minute : Int} {pv plv tv : Value} (h : ArgsAt (fun k => k < W.heap.size) W bx h0 mach plan fr til truth person minute pv plv tv) (hbx : bx < W.heap.size) : Asks 10 bx W ([(checkPlan h0 mach plan)]) [] := by
  intro w hb hB hhb hH hI
  have hA := h.keep (Only.below hB) (fun k hk hn => by omega) (by omega)
  obtain ⟨x0, x1, x2, x3, x4, x5, x6, x7, x8⟩ := hA.cells
  have hC := checkPlan_any _ _ _ _ h0 mach plan w hA.people hA.plan
  obtain ⟨R, hR⟩ : ∃ x, checkPlan h0 mach plan = x := ⟨_, rfl⟩
  have HR := Lib.hid hR
  rw [hR] at hC ⊢
  clear hR
  have HI := Lib.hid hI; clear hI hB
  obtain ⟨s01, s02, s03, rfl⟩ : ∃ a n c, pv = .slice a n c := by obtain ⟨a, n, c, hh, _⟩ := hA.people; exact ⟨a, n, c, hh⟩
  obtain ⟨s11, s12, s13, rfl⟩ : ∃ a n c, plv = .slice a n c := by obtain ⟨a, n, c, hh, _⟩ := hA.plan; exact ⟨a, n, c, hh⟩
  obtain ⟨s21, s22, s23, rfl⟩ : ∃ a n c, tv = .slice a n c := by obtain ⟨a, n, c, hh, _⟩ := hA.truth; exact ⟨a, n, c, hh⟩
  clear hA
  go_enter Try.func10, Try.ntmps10
  go_wp2_with fail
  refine hC.mono ?_
  rintro e w1 ⟨rfl, P1⟩
  obtain ⟨hS0, hH0⟩ := step_pure hH P1
  clear hC P1
  go_wp2_with fail
  refine (putErrno_any hb (.int .i64 R) (fun _ => False) [] [] [R] [] _ hH0 (fun _ f => f.elim) (.num _ _) (by constructor <;> simp)).mono ?_
  rintro e w2 ⟨rfl, hH1, hT1⟩
  have hS1 := hS0.trans hT1
  have HS := Lib.hid hS1; have HH := Lib.hid hH1
  go_wp2
  go_ret
  exact ⟨9, #[], fun _ => False, rfl, enters_of Try.func9 (by kernel_rfl) rfl, by simpa using HH.out, HS.out, fun _ f => f.elim, nothing_any _⟩

set_option maxHeartbeats 1000000 in
set_option maxRecDepth 100000 in
theorem wipe_Plan (B nb : Nat) (v : Value) (l : List Int) (w : World) (h : w.ownsRow B 2 1 v l.length (l.map (.int .i64))) (hc : w.cell? ⟨nb, 0, none⟩ = some v) :
    Calls Try.prog 15 #[.pointer (some ⟨nb, 0, none⟩)] w fun e w' => e = .returned (.tuple #[]) ∧ Only (fun k => v.ownBlock = some k) w w' := by
  go_enter Try.func15, Try.ntmps15
  go_wp2_with fail
  refine (wipeInt64s_any B nb v l w h hc).mono ?_
  rintro e w2 ⟨rfl, hO⟩
  go_wp2
  go_end0
  exact ⟨rfl, hO⟩

set_option maxHeartbeats 1000000 in
set_option maxRecDepth 100000 in
theorem ask_Plan {W : World} {bx : Nat} {h0 : Hall} {mach : Int} {plan : List Int} {fr til : Int} {truth : List Int} {person minute : Int} {pv plv tv : Value} (h : ArgsAt (fun k => k < W.heap.size) W bx h0 mach plan fr til truth person minute pv plv tv) (hbx : bx < W.heap.size) : Asks 12 bx W ((((planR h0 mach).1.length : Int) :: (planR h0 mach).1) ++ [(planR h0 mach).2]) [] := by
  intro w hb hB hhb hH hI
  have hA := h.keep (Only.below hB) (fun k hk hn => by omega) (by omega)
  obtain ⟨x0, x1, x2, x3, x4, x5, x6, x7, x8⟩ := hA.cells
  have hC := Plan_any _ _ h0 mach w hA.people
  obtain ⟨R, hR⟩ : ∃ x, planR h0 mach = x := ⟨_, rfl⟩
  have HR := Lib.hid hR
  have hsm := plan_small h0 mach
  rw [hR] at hsm
  rw [hR] at hC ⊢
  clear hR
  have HI := Lib.hid hI; clear hI hB
  obtain ⟨s01, s02, s03, rfl⟩ : ∃ a n c, pv = .slice a n c := by obtain ⟨a, n, c, hh, _⟩ := hA.people; exact ⟨a, n, c, hh⟩
  obtain ⟨s11, s12, s13, rfl⟩ : ∃ a n c, plv = .slice a n c := by obtain ⟨a, n, c, hh, _⟩ := hA.plan; exact ⟨a, n, c, hh⟩
  obtain ⟨s21, s22, s23, rfl⟩ : ∃ a n c, tv = .slice a n c := by obtain ⟨a, n, c, hh, _⟩ := hA.truth; exact ⟨a, n, c, hh⟩
  clear hA
  go_enter Try.func12, Try.ntmps12
  go_wp2_with fail
  refine hC.mono ?_
  rintro e w1 ⟨u, rfl, hF, P1⟩
  obtain ⟨u1, u2, u3, rfl⟩ : ∃ a n c, u = .slice a n c := by
    rcases hF.2 with ⟨rfl, _⟩ | ⟨g, cap, cur, rfl, _⟩ <;> exact ⟨_, _, _, rfl⟩
  have hP1 := P1.alloc (.cells #[.slice u1 u2 u3] 25)
  obtain ⟨hS0, hH0⟩ := step_pure hH hP1
  have hFB := (hF.lt)
  have hrow : (w1.alloc (.cells #[.slice u1 u2 u3] 25)).ownsRow w.heap.size 2 1 (.slice u1 u2 u3) R.1.length (R.1.map (.int .i64)) := World.ownsRow.alloc hF _
  have hnb : (w1.alloc (.cells #[.slice u1 u2 u3] 25)).heap[w1.heap.size]? = some (.cells #[.slice u1 u2 u3] 25 (0, 0)) := World.alloc_heap_new w1 _
  have hD : ∀ k, (Value.slice u1 u2 u3).ownBlock = some k → ¬ InHeap hb (w1.alloc (.cells #[.slice u1 u2 u3] 25)) k := fun k hk hi => by
    have h1 := (hFB k hk).1
    obtain ⟨vn, vs, hh, _, _⟩ := id hH
    have h2 := InHeap.lt hH (in_stay hP1 hh (fun f => f) hi)
    omega
  have hDn : ¬ InHeap hb (w1.alloc (.cells #[.slice u1 u2 u3] 25)) w1.heap.size := fun hi => by
    obtain ⟨vn, vs, hh, _, _⟩ := id hH
    have h2 := InHeap.lt hH (in_stay hP1 hh (fun f => f) hi)
    have := P1.size
    omega
  have hP1s := P1.size
  have HX := Lib.hid hFB; have HFl := Lib.hid hP1s
  clear hC P1 hF hFB
  go_wp2_with fail
  refine (putInt64s_any hb (.slice u1 u2 u3) _ [] [] _ [] _ hH0 hD (enc_row hrow) (by constructor <;> simp <;> omega)).mono ?_
  rintro e w2 ⟨rfl, hH1, hT1⟩
  have hS1 := hS0.trans hT1
  have hrow := owns_keep hrow hT1.only hD
  have hnb := hT1.only.heap hnb hDn
  have hlt : ∀ k, (Value.slice u1 u2 u3).ownBlock = some k → k < (w1.alloc (.cells #[.slice u1 u2 u3] 25)).heap.size := fun k hk => by have := (HX.out k hk).2; simp; omega
  have hD := hT1.apart hD hlt
  have hDn := hT1.apart (D := fun k => k = w1.heap.size) (fun k hk => by rw [hk]; exact hDn) (fun k hk => by rw [hk]; simp) _ rfl
  have hsz := hT1.only.size
  simp only [World.size_alloc] at hsz hlt
  go_wp2_with fail
  refine (putErrno_any hb (.int .i64 R.2) (fun _ => False) ([] ++ ((R.1.length : Int) :: R.1)) [] [R.2] [] _ hH1 (fun _ f => f.elim) (.num _ _) (by constructor <;> simp <;> omega)).mono ?_
  rintro e w3 ⟨rfl, hH2, hT2⟩
  have hS2 := hS1.trans hT2
  have hrow := owns_keep hrow hT2.only hD
  have hnb := hT2.only.heap hnb hDn
  have hD := hT2.apart hD (fun k hk => by have := hlt k hk; omega)
  have hDn := hT2.apart (D := fun k => k = w1.heap.size) (fun k hk => by rw [hk]; exact hDn) (fun k hk => by omega) _ rfl
  have hsz := Nat.le_trans hsz hT2.only.size
  have HS := Lib.hid hS2; have HH := Lib.hid hH2
  have HROW := Lib.hid hrow; have HNB := Lib.hid hnb; have HD := Lib.hid hD
  clear hrow hnb hD hDn hsz hlt
  go_wp2
  go_ret
  refine ⟨15, #[.pointer (some ⟨w1.heap.size, 0, none⟩)], fun k => (Value.slice u1 u2 u3).ownBlock = some k, rfl, enters_of Try.func15 (by kernel_rfl) rfl, by simpa using HH.out, HS.out, fun k hk => ⟨(HX.out k hk).1, HD.out k hk⟩, wipe_Plan _ _ _ _ _ HROW.out (cell_of_row _ _ _ _ _ _ HNB.out)⟩

set_option maxHeartbeats 1000000 in
set_option maxRecDepth 100000 in
theorem ask_Machines {W : World} {bx : Nat} {h0 : Hall} {mach : Int} {plan : List Int} {fr til : Int} {truth : List Int} {person minute : Int} {pv plv tv : Value} (h : ArgsAt (fun k => k < W.heap.size) W bx h0 mach plan fr til truth person minute pv plv tv) (hbx : bx < W.heap.size) : Asks 17 bx W ([(machinesR h0).1, (machinesR h0).2.1] ++ [(machinesR h0).2.2]) [] := by
  intro w hb hB hhb hH hI
  have hA := h.keep (Only.below hB) (fun k hk hn => by omega) (by omega)
  obtain ⟨x0, x1, x2, x3, x4, x5, x6, x7, x8⟩ := hA.cells
  have hC := Machines_any _ _ h0 w hA.people
  obtain ⟨R, hR⟩ : ∃ x, machinesR h0 = x := ⟨_, rfl⟩
  have HR := Lib.hid hR
  rw [hR] at hC ⊢
  clear hR
  have HI := Lib.hid hI; clear hI hB
  obtain ⟨s01, s02, s03, rfl⟩ : ∃ a n c, pv = .slice a n c := by obtain ⟨a, n, c, hh, _⟩ := hA.people; exact ⟨a, n, c, hh⟩
  obtain ⟨s11, s12, s13, rfl⟩ : ∃ a n c, plv = .slice a n c := by obtain ⟨a, n, c, hh, _⟩ := hA.plan; exact ⟨a, n, c, hh⟩
  obtain ⟨s21, s22, s23, rfl⟩ : ∃ a n c, tv = .slice a n c := by obtain ⟨a, n, c, hh, _⟩ := hA.truth; exact ⟨a, n, c, hh⟩
  clear hA
  go_enter Try.func17, Try.ntmps17
  go_wp2_with fail
  refine hC.mono ?_
  rintro e w1 ⟨rfl, P1⟩
  have hP1 := P1.alloc (.cells #[.int .i64 R.1, .int .i64 R.2.1] 46)
  obtain ⟨hS0, hH0⟩ := step_pure hH hP1
  clear hC P1
  go_wp2_with fail
  refine (putRange_any hb (.int .i64 R.1) (.int .i64 R.2.1) (fun _ => False) [] [] [R.1, R.2.1] [] _ hH0 (fun _ f => f.elim) (.cons (.num _ _) (.cons (.num _ _) .nil)) (by constructor <;> simp)).mono ?_
  rintro e w2 ⟨rfl, hH1, hT1⟩
  have hS1 := hS0.trans hT1
  go_wp2_with fail
  refine (putErrno_any hb (.int .i64 R.2.2) (fun _ => False) ([] ++ [R.1, R.2.1]) [] [R.2.2] [] _ hH1 (fun _ f => f.elim) (.num _ _) (by constructor <;> simp)).mono ?_
  rintro e w3 ⟨rfl, hH2, hT2⟩
  have hS2 := hS1.trans hT2
  have HS := Lib.hid hS2; have HH := Lib.hid hH2
  go_wp2
  go_ret
  exact ⟨9, #[], fun _ => False, rfl, enters_of Try.func9 (by kernel_rfl) rfl, by simpa using HH.out, HS.out, fun _ f => f.elim, nothing_any _⟩

set_option maxHeartbeats 1000000 in
set_option maxRecDepth 100000 in
theorem ask_Bound {W : World} {bx : Nat} {h0 : Hall} {mach : Int} {plan : List Int} {fr til : Int} {truth : List Int} {person minute : Int} {pv plv tv : Value} (h : ArgsAt (fun k => k < W.heap.size) W bx h0 mach plan fr til truth person minute pv plv tv) (hbx : bx < W.heap.size) : Asks 20 bx W ([(boundR h0 fr til).1] ++ [(boundR h0 fr til).2]) [] := by
  intro w hb hB hhb hH hI
  have hA := h.keep (Only.below hB) (fun k hk hn => by omega) (by omega)
  obtain ⟨x0, x1, x2, x3, x4, x5, x6, x7, x8⟩ := hA.cells
  have hC := Bound_any _ _ h0 fr til w hA.people
  obtain ⟨R, hR⟩ : ∃ x, boundR h0 fr til = x := ⟨_, rfl⟩
  have HR := Lib.hid hR
  rw [hR] at hC ⊢
  clear hR
  have HI := Lib.hid hI; clear hI hB
  obtain ⟨s01, s02, s03, rfl⟩ : ∃ a n c, pv = .slice a n c := by obtain ⟨a, n, c, hh, _⟩ := hA.people; exact ⟨a, n, c, hh⟩
  obtain ⟨s11, s12, s13, rfl⟩ : ∃ a n c, plv = .slice a n c := by obtain ⟨a, n, c, hh, _⟩ := hA.plan; exact ⟨a, n, c, hh⟩
  obtain ⟨s21, s22, s23, rfl⟩ : ∃ a n c, tv = .slice a n c := by obtain ⟨a, n, c, hh, _⟩ := hA.truth; exact ⟨a, n, c, hh⟩
  clear hA
  go_enter Try.func20, Try.ntmps20
  go_wp2_with fail
  refine hC.mono ?_
  rintro e w1 ⟨rfl, P1⟩
  obtain ⟨hS0, hH0⟩ := step_pure hH P1
  clear hC P1
  go_wp2_with fail
  refine (putInt_any hb (.int .i64 R.1) (fun _ => False) [] [] [R.1] [] _ hH0 (fun _ f => f.elim) (.num _ _) (by constructor <;> simp)).mono ?_
  rintro e w2 ⟨rfl, hH1, hT1⟩
  have hS1 := hS0.trans hT1
  go_wp2_with fail
  refine (putErrno_any hb (.int .i64 R.2) (fun _ => False) ([] ++ [R.1]) [] [R.2] [] _ hH1 (fun _ f => f.elim) (.num _ _) (by constructor <;> simp)).mono ?_
  rintro e w3 ⟨rfl, hH2, hT2⟩
  have hS2 := hS1.trans hT2
  have HS := Lib.hid hS2; have HH := Lib.hid hH2
  go_wp2
  go_ret
  exact ⟨9, #[], fun _ => False, rfl, enters_of Try.func9 (by kernel_rfl) rfl, by simpa using HH.out, HS.out, fun _ f => f.elim, nothing_any _⟩

set_option maxHeartbeats 1000000 in
set_option maxRecDepth 100000 in
theorem ask_Crowd {W : World} {bx : Nat} {h0 : Hall} {mach : Int} {plan : List Int} {fr til : Int} {truth : List Int} {person minute : Int} {pv plv tv : Value} (h : ArgsAt (fun k => k < W.heap.size) W bx h0 mach plan fr til truth person minute pv plv tv) (hbx : bx < W.heap.size) : Asks 23 bx W ([(crowdR h0).1, (crowdR h0).2.1] ++ [(crowdR h0).2.2]) [] := by
  intro w hb hB hhb hH hI
  have hA := h.keep (Only.below hB) (fun k hk hn => by omega) (by omega)
  obtain ⟨x0, x1, x2, x3, x4, x5, x6, x7, x8⟩ := hA.cells
  have hC := Crowd_any _ _ h0 w hA.people
  obtain ⟨R, hR⟩ : ∃ x, crowdR h0 = x := ⟨_, rfl⟩
  have HR := Lib.hid hR
  rw [hR] at hC ⊢
  clear hR
  have HI := Lib.hid hI; clear hI hB
  obtain ⟨s01, s02, s03, rfl⟩ : ∃ a n c, pv = .slice a n c := by obtain ⟨a, n, c, hh, _⟩ := hA.people; exact ⟨a, n, c, hh⟩
  obtain ⟨s11, s12, s13, rfl⟩ : ∃ a n c, plv = .slice a n c := by obtain ⟨a, n, c, hh, _⟩ := hA.plan; exact ⟨a, n, c, hh⟩
  obtain ⟨s21, s22, s23, rfl⟩ : ∃ a n c, tv = .slice a n c := by obtain ⟨a, n, c, hh, _⟩ := hA.truth; exact ⟨a, n, c, hh⟩
  clear hA
  go_enter Try.func23, Try.ntmps23
  go_wp2_with fail
  refine hC.mono ?_
  rintro e w1 ⟨rfl, P1⟩
  have hP1 := P1.alloc (.cells #[.int .i64 R.1, .int .i64 R.2.1] 46)
  obtain ⟨hS0, hH0⟩ := step_pure hH hP1
  clear hC P1
  go_wp2_with fail
  refine (putRange_any hb (.int .i64 R.1) (.int .i64 R.2.1) (fun _ => False) [] [] [R.1, R.2.1] [] _ hH0 (fun _ f => f.elim) (.cons (.num _ _) (.cons (.num _ _) .nil)) (by constructor <;> simp)).mono ?_
  rintro e w2 ⟨rfl, hH1, hT1⟩
  have hS1 := hS0.trans hT1
  go_wp2_with fail
  refine (putErrno_any hb (.int .i64 R.2.2) (fun _ => False) ([] ++ [R.1, R.2.1]) [] [R.2.2] [] _ hH1 (fun _ f => f.elim) (.num _ _) (by constructor <;> simp)).mono ?_
  rintro e w3 ⟨rfl, hH2, hT2⟩
  have hS2 := hS1.trans hT2
  have HS := Lib.hid hS2; have HH := Lib.hid hH2
  go_wp2
  go_ret
  exact ⟨9, #[], fun _ => False, rfl, enters_of Try.func9 (by kernel_rfl) rfl, by simpa using HH.out, HS.out, fun _ f => f.elim, nothing_any _⟩

set_option maxHeartbeats 1000000 in
set_option maxRecDepth 100000 in
theorem wipe_Serve (B nb : Nat) (v : Value) (l : List Int) (w : World) (h : w.ownsRow B 2 1 v l.length (l.map (.int .i64))) (hc : w.cell? ⟨nb, 0, none⟩ = some v) :
    Calls Try.prog 27 #[.pointer (some ⟨nb, 0, none⟩)] w fun e w' => e = .returned (.tuple #[]) ∧ Only (fun k => v.ownBlock = some k) w w' := by
  go_enter Try.func27, Try.ntmps27
  go_wp2_with fail
  refine (wipeInt64s_any B nb v l w h hc).mono ?_
  rintro e w2 ⟨rfl, hO⟩
  go_wp2
  go_end0
  exact ⟨rfl, hO⟩

set_option maxHeartbeats 1000000 in
set_option maxRecDepth 100000 in
theorem ask_Serve {W : World} {bx : Nat} {h0 : Hall} {mach : Int} {plan : List Int} {fr til : Int} {truth : List Int} {person minute : Int} {pv plv tv : Value} (h : ArgsAt (fun k => k < W.heap.size) W bx h0 mach plan fr til truth person minute pv plv tv) (hbx : bx < W.heap.size) : Asks 25 bx W ((((serveR h0 mach truth).1.length : Int) :: (serveR h0 mach truth).1) ++ [(serveR h0 mach truth).2.1] ++ [(serveR h0 mach truth).2.2]) [] := by
  intro w hb hB hhb hH hI
  have hA := h.keep (Only.below hB) (fun k hk hn => by omega) (by omega)
  obtain ⟨x0, x1, x2, x3, x4, x5, x6, x7, x8⟩ := hA.cells
  have hC := Serve_any _ _ _ _ h0 mach truth w hA.people hA.truth
  obtain ⟨R, hR⟩ : ∃ x, serveR h0 mach truth = x := ⟨_, rfl⟩
  have HR := Lib.hid hR
  have hsm := serve_small h0 mach truth
  rw [hR] at hsm
  rw [hR] at hC ⊢
  clear hR
  have HI := Lib.hid hI; clear hI hB
  obtain ⟨s01, s02, s03, rfl⟩ : ∃ a n c, pv = .slice a n c := by obtain ⟨a, n, c, hh, _⟩ := hA.people; exact ⟨a, n, c, hh⟩
  obtain ⟨s11, s12, s13, rfl⟩ : ∃ a n c, plv = .slice a n c := by obtain ⟨a, n, c, hh, _⟩ := hA.plan; exact ⟨a, n, c, hh⟩
  obtain ⟨s21, s22, s23, rfl⟩ : ∃ a n c, tv = .slice a n c := by obtain ⟨a, n, c, hh, _⟩ := hA.truth; exact ⟨a, n, c, hh⟩
  clear hA
  go_enter Try.func25, Try.ntmps25
  go_wp2_with fail
  refine hC.mono ?_
  rintro e w1 ⟨u, rfl, hF, P1⟩
  obtain ⟨u1, u2, u3, rfl⟩ : ∃ a n c, u = .slice a n c := by
    rcases hF.2 with ⟨rfl, _⟩ | ⟨g, cap, cur, rfl, _⟩ <;> exact ⟨_, _, _, rfl⟩
  have hP1 := P1.alloc (.cells #[.slice u1 u2 u3] 25)
  obtain ⟨hS0, hH0⟩ := step_pure hH hP1
  have hFB := (hF.lt)
  have hrow : (w1.alloc (.cells #[.slice u1 u2 u3] 25)).ownsRow w.heap.size 2 1 (.slice u1 u2 u3) R.1.length (R.1.map (.int .i64)) := World.ownsRow.alloc hF _
  have hnb : (w1.alloc (.cells #[.slice u1 u2 u3] 25)).heap[w1.heap.size]? = some (.cells #[.slice u1 u2 u3] 25 (0, 0)) := World.alloc_heap_new w1 _
  have hD : ∀ k, (Value.slice u1 u2 u3).ownBlock = some k → ¬ InHeap hb (w1.alloc (.cells #[.slice u1 u2 u3] 25)) k := fun k hk hi => by
    have h1 := (hFB k hk).1
    obtain ⟨vn, vs, hh, _, _⟩ := id hH
    have h2 := InHeap.lt hH (in_stay hP1 hh (fun f => f) hi)
    omega
  have hDn : ¬ InHeap hb (w1.alloc (.cells #[.slice u1 u2 u3] 25)) w1.heap.size := fun hi => by
    obtain ⟨vn, vs, hh, _, _⟩ := id hH
    have h2 := InHeap.lt hH (in_stay hP1 hh (fun f => f) hi)
    have := P1.size
    omega
  have hP1s := P1.size
  have HX := Lib.hid hFB; have HFl := Lib.hid hP1s
  clear hC P1 hF hFB
  go_wp2_with fail
  refine (putInt64s_any hb (.slice u1 u2 u3) _ [] [] _ [] _ hH0 hD (enc_row hrow) (by constructor <;> simp <;> omega)).mono ?_
  rintro e w2 ⟨rfl, hH1, hT1⟩
  have hS1 := hS0.trans hT1
  have hrow := owns_keep hrow hT1.only hD
  have hnb := hT1.only.heap hnb hDn
  have hlt : ∀ k, (Value.slice u1 u2 u3).ownBlock = some k → k < (w1.alloc (.cells #[.slice u1 u2 u3] 25)).heap.size := fun k hk => by have := (HX.out k hk).2; simp; omega
  have hD := hT1.apart hD hlt
  have hDn := hT1.apart (D := fun k => k = w1.heap.size) (fun k hk => by rw [hk]; exact hDn) (fun k hk => by rw [hk]; simp) _ rfl
  have hsz := hT1.only.size
  simp only [World.size_alloc] at hsz hlt
  go_wp2_with fail
  refine (putInt_any hb (.int .i64 R.2.1) (fun _ => False) ([] ++ ((R.1.length : Int) :: R.1)) [] [R.2.1] [] _ hH1 (fun _ f => f.elim) (.num _ _) (by constructor <;> simp <;> omega)).mono ?_
  rintro e w3 ⟨rfl, hH2, hT2⟩
  have hS2 := hS1.trans hT2
  have hrow := owns_keep hrow hT2.only hD
  have hnb := hT2.only.heap hnb hDn
  have hD := hT2.apart hD (fun k hk => by have := hlt k hk; omega)
  have hDn := hT2.apart (D := fun k => k = w1.heap.size) (fun k hk => by rw [hk]; exact hDn) (fun k hk => by omega) _ rfl
  have hsz := Nat.le_trans hsz hT2.only.size
  go_wp2_with fail
  refine (putErrno_any hb (.int .i64 R.2.2) (fun _ => False) (([] ++ ((R.1.length : Int) :: R.1)) ++ [R.2.1]) [] [R.2.2] [] _ hH2 (fun _ f => f.elim) (.num _ _) (by constructor <;> simp <;> omega)).mono ?_
  rintro e w4 ⟨rfl, hH3, hT3⟩
  have hS3 := hS2.trans hT3
  have hrow := owns_keep hrow hT3.only hD
  have hnb := hT3.only.heap hnb hDn
  have hD := hT3.apart hD (fun k hk => by have := hlt k hk; omega)
  have hDn := hT3.apart (D := fun k => k = w1.heap.size) (fun k hk => by rw [hk]; exact hDn) (fun k hk => by omega) _ rfl
  have hsz := Nat.le_trans hsz hT3.only.size
  have HS := Lib.hid hS3; have HH := Lib.hid hH3
  have HROW := Lib.hid hrow; have HNB := Lib.hid hnb; have HD := Lib.hid hD
  clear hrow hnb hD hDn hsz hlt
  go_wp2
  go_ret
  refine ⟨27, #[.pointer (some ⟨w1.heap.size, 0, none⟩)], fun k => (Value.slice u1 u2 u3).ownBlock = some k, rfl, enters_of Try.func27 (by kernel_rfl) rfl, by simpa using HH.out, HS.out, fun k hk => ⟨(HX.out k hk).1, HD.out k hk⟩, wipe_Serve _ _ _ _ _ HROW.out (cell_of_row _ _ _ _ _ _ HNB.out)⟩

set_option maxHeartbeats 1000000 in
set_option maxRecDepth 100000 in
theorem ask_Late {W : World} {bx : Nat} {h0 : Hall} {mach : Int} {plan : List Int} {fr til : Int} {truth : List Int} {person minute : Int} {pv plv tv : Value} (h : ArgsAt (fun k => k < W.heap.size) W bx h0 mach plan fr til truth person minute pv plv tv) (hbx : bx < W.heap.size) : Asks 28 bx W ([(lateR h0 mach person).1] ++ [(lateR h0 mach person).2]) [] := by
  intro w hb hB hhb hH hI
  have hA := h.keep (Only.below hB) (fun k hk hn => by omega) (by omega)
  obtain ⟨x0, x1, x2, x3, x4, x5, x6, x7, x8⟩ := hA.cells
  have hC := Late_any _ _ h0 mach person w hA.people
  obtain ⟨R, hR⟩ : ∃ x, lateR h0 mach person = x := ⟨_, rfl⟩
  have HR := Lib.hid hR
  rw [hR] at hC ⊢
  clear hR
  have HI := Lib.hid hI; clear hI hB
  obtain ⟨s01, s02, s03, rfl⟩ : ∃ a n c, pv = .slice a n c := by obtain ⟨a, n, c, hh, _⟩ := hA.people; exact ⟨a, n, c, hh⟩
  obtain ⟨s11, s12, s13, rfl⟩ : ∃ a n c, plv = .slice a n c := by obtain ⟨a, n, c, hh, _⟩ := hA.plan; exact ⟨a, n, c, hh⟩
  obtain ⟨s21, s22, s23, rfl⟩ : ∃ a n c, tv = .slice a n c := by obtain ⟨a, n, c, hh, _⟩ := hA.truth; exact ⟨a, n, c, hh⟩
  clear hA
  go_enter Try.func28, Try.ntmps28
  go_wp2_with fail
  refine hC.mono ?_
  rintro e w1 ⟨rfl, P1⟩
  obtain ⟨hS0, hH0⟩ := step_pure hH P1
  clear hC P1
  go_wp2_with fail
  refine (putInt64_any hb (.int .i64 R.1) (fun _ => False) [] [] [R.1] [] _ hH0 (fun _ f => f.elim) (.num _ _) (by constructor <;> simp)).mono ?_
  rintro e w2 ⟨rfl, hH1, hT1⟩
  have hS1 := hS0.trans hT1
  go_wp2_with fail
  refine (putErrno_any hb (.int .i64 R.2) (fun _ => False) ([] ++ [R.1]) [] [R.2] [] _ hH1 (fun _ f => f.elim) (.num _ _) (by constructor <;> simp)).mono ?_
  rintro e w3 ⟨rfl, hH2, hT2⟩
  have hS2 := hS1.trans hT2
  have HS := Lib.hid hS2; have HH := Lib.hid hH2
  go_wp2
  go_ret
  exact ⟨9, #[], fun _ => False, rfl, enters_of Try.func9 (by kernel_rfl) rfl, by simpa using HH.out, HS.out, fun _ f => f.elim, nothing_any _⟩

set_option maxHeartbeats 1000000 in
set_option maxRecDepth 100000 in
theorem ask_Room {W : World} {bx : Nat} {h0 : Hall} {mach : Int} {plan : List Int} {fr til : Int} {truth : List Int} {person minute : Int} {pv plv tv : Value} (h : ArgsAt (fun k => k < W.heap.size) W bx h0 mach plan fr til truth person minute pv plv tv) (hbx : bx < W.heap.size) : Asks 31 bx W ([(roomR h0 mach minute).1] ++ [(roomR h0 mach minute).2]) [] := by
  intro w hb hB hhb hH hI
  have hA := h.keep (Only.below hB) (fun k hk hn => by omega) (by omega)
  obtain ⟨x0, x1, x2, x3, x4, x5, x6, x7, x8⟩ := hA.cells
  have hC := Room_any _ _ h0 mach minute w hA.people
  obtain ⟨R, hR⟩ : ∃ x, roomR h0 mach minute = x := ⟨_, rfl⟩
  have HR := Lib.hid hR
  rw [hR] at hC ⊢
  clear hR
  have HI := Lib.hid hI; clear hI hB
  obtain ⟨s01, s02, s03, rfl⟩ : ∃ a n c, pv = .slice a n c := by obtain ⟨a, n, c, hh, _⟩ := hA.people; exact ⟨a, n, c, hh⟩
  obtain ⟨s11, s12, s13, rfl⟩ : ∃ a n c, plv = .slice a n c := by obtain ⟨a, n, c, hh, _⟩ := hA.plan; exact ⟨a, n, c, hh⟩
  obtain ⟨s21, s22, s23, rfl⟩ : ∃ a n c, tv = .slice a n c := by obtain ⟨a, n, c, hh, _⟩ := hA.truth; exact ⟨a, n, c, hh⟩
  clear hA
  go_enter Try.func31, Try.ntmps31
  go_wp2_with fail
  refine hC.mono ?_
  rintro e w1 ⟨rfl, P1⟩
  obtain ⟨hS0, hH0⟩ := step_pure hH P1
  clear hC P1
  go_wp2_with fail
  refine (putInt_any hb (.int .i64 R.1) (fun _ => False) [] [] [R.1] [] _ hH0 (fun _ f => f.elim) (.num _ _) (by constructor <;> simp)).mono ?_
  rintro e w2 ⟨rfl, hH1, hT1⟩
  have hS1 := hS0.trans hT1
  go_wp2_with fail
  refine (putErrno_any hb (.int .i64 R.2) (fun _ => False) ([] ++ [R.1]) [] [R.2] [] _ hH1 (fun _ f => f.elim) (.num _ _) (by constructor <;> simp)).mono ?_
  rintro e w3 ⟨rfl, hH2, hT2⟩
  have hS2 := hS1.trans hT2
  have HS := Lib.hid hS2; have HH := Lib.hid hH2
  go_wp2
  go_ret
  exact ⟨9, #[], fun _ => False, rfl, enters_of Try.func9 (by kernel_rfl) rfl, by simpa using HH.out, HS.out, fun _ f => f.elim, nothing_any _⟩
end Go.Proofs.Ytbiffhekbnmffaa
