/-
  What each function is asked, twice.
-/
import Derived.Test.YtcephfmafmmilaaMh
import Derived.Test.YtcephfmafmmilaaLj
import Derived.Test.YtcephfmafmmilaaWipe
namespace Go.Proofs.Ytcephfmafmmilaa
open Go.RowKit

/-- The arguments, in their box. -/
structure ArgsAt (D : Nat → Prop) (w : World) (bx : Nat) (curve : List Int) (turns : Int) (chain : List (List Int)) (comes : Bool) (came added : List Int) (cv chv cmv adv : Value) : Prop where
  box : w.heap[bx]? = some (.cells #[cv, .int .i64 turns, chv, .bool comes, cmv, adv] 25 (0, 0))
  curve : Ints D w cv curve
  chain : Lists D w chv chain
  came : Ints D w cmv came
  added : Ints D w adv added

theorem ArgsAt.keep {D S : Nat → Prop} {w w' : World} {bx : Nat} {curve : List Int} {turns : Int} {chain : List (List Int)} {comes : Bool} {came added : List Int} {cv chv cmv adv : Value} (h : ArgsAt D w bx curve turns chain comes came added cv chv cmv adv)
    (ho : Only S w w') (hd : ∀ k, D k → ¬ S k) (hb : ¬ S bx) : ArgsAt D w' bx curve turns chain comes came added cv chv cmv adv :=
  ⟨ho.heap h.box hb, h.curve.keep ho hd, h.chain.keep ho hd, h.came.keep ho hd, h.added.keep ho hd⟩

theorem ArgsAt.cells {D : Nat → Prop} {w : World} {bx : Nat} {curve : List Int} {turns : Int} {chain : List (List Int)} {comes : Bool} {came added : List Int} {cv chv cmv adv : Value} (h : ArgsAt D w bx curve turns chain comes came added cv chv cmv adv) :
    w.cell? ⟨bx, 0, none⟩ = some (cv) ∧ w.cell? ⟨bx, 1, none⟩ = some (.int .i64 turns) ∧ w.cell? ⟨bx, 2, none⟩ = some (chv) ∧ w.cell? ⟨bx, 3, none⟩ = some (.bool comes) ∧ w.cell? ⟨bx, 4, none⟩ = some (cmv) ∧ w.cell? ⟨bx, 5, none⟩ = some (adv) :=
  ⟨cell_of_row _ _ _ _ _ _ h.box, cell_of_row _ _ _ _ _ _ h.box, cell_of_row _ _ _ _ _ _ h.box, cell_of_row _ _ _ _ _ _ h.box, cell_of_row _ _ _ _ _ _ h.box, cell_of_row _ _ _ _ _ _ h.box⟩

theorem came_small (c : List Int) (t : Int) : (cameR c t).1.length ≤ 60 := by
  unfold cameR
  split
  · simp
  · cases hw : withinB 0 60 [t] with
    | false => simp
    | true =>
      have := within1_iff.1 hw
      simp [stepsOf, mosts_len]; omega
theorem added_small (c came : List Int) : (addedR c came).1.length ≤ 60 := by
  unfold addedR
  split
  · simp
  · split
    · simp
    · rename_i h
      have := (row_of (r := came) (by simpa using h)).1
      simp [stepsOf, lazyOf_len, sumsOf_len]; omega
theorem behind_small (c : List Int) (ch : List (List Int)) : (behindR c ch).1.length ≤ 60 := by
  unfold behindR
  split
  · simp
  · rename_i h
    have h0 : openE c ch = 0 := by simpa using h
    have hc : checkCurve c = 0 := by
      unfold openE at h0
      by_cases hz : checkCurve c = 0
      · exact hz
      · rw [if_pos hz] at h0; exact absurd h0 hz
    have := (curve_of hc).2.1
    simp; omega

set_option maxHeartbeats 1000000 in
set_option maxRecDepth 100000 in
theorem ask_CheckCurve {W : World} {bx : Nat} {curve : List Int} {turns : Int} {chain : List (List Int)} {comes : Bool} {came added : List Int} {cv chv cmv adv : Value} (h : ArgsAt (fun k => k < W.heap.size) W bx curve turns chain comes came added cv chv cmv adv) (hbx : bx < W.heap.size) : Asks 6 bx W ([(checkCurve curve)]) [] := by
  intro w hb hB hhb hH hI
  have hA := h.keep (Only.below hB) (fun k hk hn => by omega) (by omega)
  obtain ⟨x0, x1, x2, x3, x4, x5⟩ := hA.cells
  have hC := checkCurve_any _ _ curve w hA.curve
  obtain ⟨R, hR⟩ : ∃ x, checkCurve curve = x := ⟨_, rfl⟩
  have HR := Lib.hid hR
  rw [hR] at hC ⊢
  clear hR
  have HI := Lib.hid hI; clear hI hB
  obtain ⟨s01, s02, s03, rfl⟩ : ∃ a n c, cv = .slice a n c := by obtain ⟨a, n, c, hh, _⟩ := hA.curve; exact ⟨a, n, c, hh⟩
  obtain ⟨s11, s12, s13, rfl⟩ : ∃ a n c, chv = .slice a n c := by obtain ⟨a, n, c, hh, _⟩ := hA.chain; exact ⟨a, n, c, hh⟩
  obtain ⟨s21, s22, s23, rfl⟩ : ∃ a n c, cmv = .slice a n c := by obtain ⟨a, n, c, hh, _⟩ := hA.came; exact ⟨a, n, c, hh⟩
  obtain ⟨s31, s32, s33, rfl⟩ : ∃ a n c, adv = .slice a n c := by obtain ⟨a, n, c, hh, _⟩ := hA.added; exact ⟨a, n, c, hh⟩
  clear hA
  go_enter Try.func6, Try.ntmps6
  go_wp2_with fail
  refine hC.mono ?_
  rintro e w1 ⟨rfl, P1⟩
  obtain ⟨hS0, hH0⟩ := step_pure hH P1
  clear hC P1
  go_wp2_with fail
  refine (putErrno_any hb (.int .i64 R) (fun _ => False) [] [] [R] [] _ hH0 (fun _ f => f.elim) (.num _ _) (by constructor <;> simp)).mono ?_
  rintro e w2 ⟨rfl, hH1, hT1⟩
  have hS1 := hS0.trans hT1
  have HS := Lib.hid hS1; have HH := Lib.hid hH1
  go_wp2
  go_ret
  exact ⟨9, #[], fun _ => False, rfl, enters_of Try.func9 (by kernel_rfl) rfl, by simpa using HH.out, HS.out, fun _ f => f.elim, nothing_any _⟩

set_option maxHeartbeats 1000000 in
set_option maxRecDepth 100000 in
theorem ask_Most {W : World} {bx : Nat} {curve : List Int} {turns : Int} {chain : List (List Int)} {comes : Bool} {came added : List Int} {cv chv cmv adv : Value} (h : ArgsAt (fun k => k < W.heap.size) W bx curve turns chain comes came added cv chv cmv adv) (hbx : bx < W.heap.size) : Asks 10 bx W ([(mostR curve turns).1] ++ [(mostR curve turns).2]) [] := by
  intro w hb hB hhb hH hI
  have hA := h.keep (Only.below hB) (fun k hk hn => by omega) (by omega)
  obtain ⟨x0, x1, x2, x3, x4, x5⟩ := hA.cells
  have hC := Most_any _ _ curve turns w hA.curve
  obtain ⟨R, hR⟩ : ∃ x, mostR curve turns = x := ⟨_, rfl⟩
  have HR := Lib.hid hR
  rw [hR] at hC ⊢
  clear hR
  have HI := Lib.hid hI; clear hI hB
  obtain ⟨s01, s02, s03, rfl⟩ : ∃ a n c, cv = .slice a n c := by obtain ⟨a, n, c, hh, _⟩ := hA.curve; exact ⟨a, n, c, hh⟩
  obtain ⟨s11, s12, s13, rfl⟩ : ∃ a n c, chv = .slice a n c := by obtain ⟨a, n, c, hh, _⟩ := hA.chain; exact ⟨a, n, c, hh⟩
  obtain ⟨s21, s22, s23, rfl⟩ : ∃ a n c, cmv = .slice a n c := by obtain ⟨a, n, c, hh, _⟩ := hA.came; exact ⟨a, n, c, hh⟩
  obtain ⟨s31, s32, s33, rfl⟩ : ∃ a n c, adv = .slice a n c := by obtain ⟨a, n, c, hh, _⟩ := hA.added; exact ⟨a, n, c, hh⟩
  clear hA
  go_enter Try.func10, Try.ntmps10
  go_wp2_with fail
  refine hC.mono ?_
  rintro e w1 ⟨rfl, P1⟩
  obtain ⟨hS0, hH0⟩ := step_pure hH P1
  clear hC P1
  go_wp2_with fail
  refine (putInt64_any hb (.int .i64 R.1) (fun _ => False) [] [] [R.1] [] _ hH0 (fun _ f => f.elim) (.num _ _) (by constructor <;> simp)).mono ?_
  rintro e w2 ⟨rfl, hH1, hT1⟩
  have hS1 := hS0.trans hT1
  go_wp2_with fail
  refine (putErrno_any hb (.int .i64 R.2) (fun _ => False) ([] ++ [R.1]) [] [R.2] [] _ hH1 (fun _ f => f.elim) (.num _ _) (by constructor <;> simp)).mono ?_
  rintro e w3 ⟨rfl, hH2, hT2⟩
  have hS2 := hS1.trans hT2
  have HS := Lib.hid hS2; have HH := Lib.hid hH2
  go_wp2
  go_ret
  exact ⟨9, #[], fun _ => False, rfl, enters_of Try.func9 (by kernel_rfl) rfl, by simpa using HH.out, HS.out, fun _ f => f.elim, nothing_any _⟩

set_option maxHeartbeats 1000000 in
set_option maxRecDepth 100000 in
theorem ask_Least {W : World} {bx : Nat} {curve : List Int} {turns : Int} {chain : List (List Int)} {comes : Bool} {came added : List Int} {cv chv cmv adv : Value} (h : ArgsAt (fun k => k < W.heap.size) W bx curve turns chain comes came added cv chv cmv adv) (hbx : bx < W.heap.size) : Asks 13 bx W ([(leastR chain turns).1] ++ [(leastR chain turns).2]) [] := by
  intro w hb hB hhb hH hI
  have hA := h.keep (Only.below hB) (fun k hk hn => by omega) (by omega)
  obtain ⟨x0, x1, x2, x3, x4, x5⟩ := hA.cells
  have hC := Least_any _ _ chain turns w hA.chain
  obtain ⟨R, hR⟩ : ∃ x, leastR chain turns = x := ⟨_, rfl⟩
  have HR := Lib.hid hR
  rw [hR] at hC ⊢
  clear hR
  have HI := Lib.hid hI; clear hI hB
  obtain ⟨s01, s02, s03, rfl⟩ : ∃ a n c, cv = .slice a n c := by obtain ⟨a, n, c, hh, _⟩ := hA.curve; exact ⟨a, n, c, hh⟩
  obtain ⟨s11, s12, s13, rfl⟩ : ∃ a n c, chv = .slice a n c := by obtain ⟨a, n, c, hh, _⟩ := hA.chain; exact ⟨a, n, c, hh⟩
  obtain ⟨s21, s22, s23, rfl⟩ : ∃ a n c, cmv = .slice a n c := by obtain ⟨a, n, c, hh, _⟩ := hA.came; exact ⟨a, n, c, hh⟩
  obtain ⟨s31, s32, s33, rfl⟩ : ∃ a n c, adv = .slice a n c := by obtain ⟨a, n, c, hh, _⟩ := hA.added; exact ⟨a, n, c, hh⟩
  clear hA
  go_enter Try.func13, Try.ntmps13
  go_wp2_with fail
  refine hC.mono ?_
  rintro e w1 ⟨rfl, P1⟩
  obtain ⟨hS0, hH0⟩ := step_pure hH P1
  clear hC P1
  go_wp2_with fail
  refine (putInt64_any hb (.int .i64 R.1) (fun _ => False) [] [] [R.1] [] _ hH0 (fun _ f => f.elim) (.num _ _) (by constructor <;> simp)).mono ?_
  rintro e w2 ⟨rfl, hH1, hT1⟩
  have hS1 := hS0.trans hT1
  go_wp2_with fail
  refine (putErrno_any hb (.int .i64 R.2) (fun _ => False) ([] ++ [R.1]) [] [R.2] [] _ hH1 (fun _ f => f.elim) (.num _ _) (by constructor <;> simp)).mono ?_
  rintro e w3 ⟨rfl, hH2, hT2⟩
  have hS2 := hS1.trans hT2
  have HS := Lib.hid hS2; have HH := Lib.hid hH2
  go_wp2
  go_ret
  exact ⟨9, #[], fun _ => False, rfl, enters_of Try.func9 (by kernel_rfl) rfl, by simpa using HH.out, HS.out, fun _ f => f.elim, nothing_any _⟩

set_option maxHeartbeats 1000000 in
set_option maxRecDepth 100000 in
theorem ask_Rate {W : World} {bx : Nat} {curve : List Int} {turns : Int} {chain : List (List Int)} {comes : Bool} {came added : List Int} {cv chv cmv adv : Value} (h : ArgsAt (fun k => k < W.heap.size) W bx curve turns chain comes came added cv chv cmv adv) (hbx : bx < W.heap.size) : Asks 15 bx W ([(rateR curve comes).1, (rateR curve comes).2.1] ++ [(rateR curve comes).2.2]) [] := by
  intro w hb hB hhb hH hI
  have hA := h.keep (Only.below hB) (fun k hk hn => by omega) (by omega)
  obtain ⟨x0, x1, x2, x3, x4, x5⟩ := hA.cells
  have hC := Rate_any _ _ curve comes w hA.curve
  obtain ⟨R, hR⟩ : ∃ x, rateR curve comes = x := ⟨_, rfl⟩
  have HR := Lib.hid hR
  rw [hR] at hC ⊢
  clear hR
  have HI := Lib.hid hI; clear hI hB
  obtain ⟨s01, s02, s03, rfl⟩ : ∃ a n c, cv = .slice a n c := by obtain ⟨a, n, c, hh, _⟩ := hA.curve; exact ⟨a, n, c, hh⟩
  obtain ⟨s11, s12, s13, rfl⟩ : ∃ a n c, chv = .slice a n c := by obtain ⟨a, n, c, hh, _⟩ := hA.chain; exact ⟨a, n, c, hh⟩
  obtain ⟨s21, s22, s23, rfl⟩ : ∃ a n c, cmv = .slice a n c := by obtain ⟨a, n, c, hh, _⟩ := hA.came; exact ⟨a, n, c, hh⟩
  obtain ⟨s31, s32, s33, rfl⟩ : ∃ a n c, adv = .slice a n c := by obtain ⟨a, n, c, hh, _⟩ := hA.added; exact ⟨a, n, c, hh⟩
  clear hA
  go_enter Try.func15, Try.ntmps15
  go_wp2_with fail
  refine hC.mono ?_
  rintro e w1 ⟨rfl, P1⟩
  have hP1 := P1.alloc (.cells #[.int .i64 R.1, .int .i64 R.2.1] 42)
  obtain ⟨hS0, hH0⟩ := step_pure hH hP1
  clear hC P1
  go_wp2_with fail
  refine (putRatio_any hb (.int .i64 R.1) (.int .i64 R.2.1) (fun _ => False) [] [] [R.1, R.2.1] [] _ hH0 (fun _ f => f.elim) (.cons (.num _ _) (.cons (.num _ _) .nil)) (by constructor <;> simp)).mono ?_
  rintro e w2 ⟨rfl, hH1, hT1⟩
  have hS1 := hS0.trans hT1
  go_wp2_with fail
  refine (putErrno_any hb (.int .i64 R.2.2) (fun _ => False) ([] ++ [R.1, R.2.1]) [] [R.2.2] [] _ hH1 (fun _ f => f.elim) (.num _ _) (by constructor <;> simp)).mono ?_
  rintro e w3 ⟨rfl, hH2, hT2⟩
  have hS2 := hS1.trans hT2
  have HS := Lib.hid hS2; have HH := Lib.hid hH2
  go_wp2
  go_ret
  exact ⟨9, #[], fun _ => False, rfl, enters_of Try.func9 (by kernel_rfl) rfl, by simpa using HH.out, HS.out, fun _ f => f.elim, nothing_any _⟩

set_option maxHeartbeats 1000000 in
set_option maxRecDepth 100000 in
theorem ask_Break {W : World} {bx : Nat} {curve : List Int} {turns : Int} {chain : List (List Int)} {comes : Bool} {came added : List Int} {cv chv cmv adv : Value} (h : ArgsAt (fun k => k < W.heap.size) W bx curve turns chain comes came added cv chv cmv adv) (hbx : bx < W.heap.size) : Asks 18 bx W ([(breakR curve came).1] ++ [(breakR curve came).2.1] ++ [(breakR curve came).2.2]) [] := by
  intro w hb hB hhb hH hI
  have hA := h.keep (Only.below hB) (fun k hk hn => by omega) (by omega)
  obtain ⟨x0, x1, x2, x3, x4, x5⟩ := hA.cells
  have hC := Break_any _ _ _ _ curve came w hA.curve hA.came
  obtain ⟨R, hR⟩ : ∃ x, breakR curve came = x := ⟨_, rfl⟩
  have HR := Lib.hid hR
  rw [hR] at hC ⊢
  clear hR
  have HI := Lib.hid hI; clear hI hB
  obtain ⟨s01, s02, s03, rfl⟩ : ∃ a n c, cv = .slice a n c := by obtain ⟨a, n, c, hh, _⟩ := hA.curve; exact ⟨a, n, c, hh⟩
  obtain ⟨s11, s12, s13, rfl⟩ : ∃ a n c, chv = .slice a n c := by obtain ⟨a, n, c, hh, _⟩ := hA.chain; exact ⟨a, n, c, hh⟩
  obtain ⟨s21, s22, s23, rfl⟩ : ∃ a n c, cmv = .slice a n c := by obtain ⟨a, n, c, hh, _⟩ := hA.came; exact ⟨a, n, c, hh⟩
  obtain ⟨s31, s32, s33, rfl⟩ : ∃ a n c, adv = .slice a n c := by obtain ⟨a, n, c, hh, _⟩ := hA.added; exact ⟨a, n, c, hh⟩
  clear hA
  go_enter Try.func18, Try.ntmps18
  go_wp2_with fail
  refine hC.mono ?_
  rintro e w1 ⟨rfl, P1⟩
  obtain ⟨hS0, hH0⟩ := step_pure hH P1
  clear hC P1
  go_wp2_with fail
  refine (putInt_any hb (.int .i64 R.1) (fun _ => False) [] [] [R.1] [] _ hH0 (fun _ f => f.elim) (.num _ _) (by constructor <;> simp)).mono ?_
  rintro e w2 ⟨rfl, hH1, hT1⟩
  have hS1 := hS0.trans hT1
  go_wp2_with fail
  refine (putInt_any hb (.int .i64 R.2.1) (fun _ => False) ([] ++ [R.1]) [] [R.2.1] [] _ hH1 (fun _ f => f.elim) (.num _ _) (by constructor <;> simp)).mono ?_
  rintro e w3 ⟨rfl, hH2, hT2⟩
  have hS2 := hS1.trans hT2
  go_wp2_with fail
  refine (putErrno_any hb (.int .i64 R.2.2) (fun _ => False) (([] ++ [R.1]) ++ [R.2.1]) [] [R.2.2] [] _ hH2 (fun _ f => f.elim) (.num _ _) (by constructor <;> simp)).mono ?_
  rintro e w4 ⟨rfl, hH3, hT3⟩
  have hS3 := hS2.trans hT3
  have HS := Lib.hid hS3; have HH := Lib.hid hH3
  go_wp2
  go_ret
  exact ⟨9, #[], fun _ => False, rfl, enters_of Try.func9 (by kernel_rfl) rfl, by simpa using HH.out, HS.out, fun _ f => f.elim, nothing_any _⟩

set_option maxHeartbeats 1000000 in
set_option maxRecDepth 100000 in
theorem wipe_Came (B nb : Nat) (v : Value) (l : List Int) (w : World) (h : w.ownsRow B 2 1 v l.length (l.map (.int .i64))) (hc : w.cell? ⟨nb, 0, none⟩ = some v) :
    Calls Try.prog 24 #[.pointer (some ⟨nb, 0, none⟩)] w fun e w' => e = .returned (.tuple #[]) ∧ Only (fun k => v.ownBlock = some k) w w' := by
  go_enter Try.func24, Try.ntmps24
  go_wp2_with fail
  refine (wipeInt64s_any B nb v l w h hc).mono ?_
  rintro e w2 ⟨rfl, hO⟩
  go_wp2
  go_end0
  exact ⟨rfl, hO⟩

set_option maxHeartbeats 1000000 in
set_option maxRecDepth 100000 in
theorem ask_Came {W : World} {bx : Nat} {curve : List Int} {turns : Int} {chain : List (List Int)} {comes : Bool} {came added : List Int} {cv chv cmv adv : Value} (h : ArgsAt (fun k => k < W.heap.size) W bx curve turns chain comes came added cv chv cmv adv) (hbx : bx < W.heap.size) : Asks 21 bx W ((((cameR curve turns).1.length : Int) :: (cameR curve turns).1) ++ [(cameR curve turns).2]) [] := by
  intro w hb hB hhb hH hI
  have hA := h.keep (Only.below hB) (fun k hk hn => by omega) (by omega)
  obtain ⟨x0, x1, x2, x3, x4, x5⟩ := hA.cells
  have hC := Came_any _ _ curve turns w hA.curve
  obtain ⟨R, hR⟩ : ∃ x, cameR curve turns = x := ⟨_, rfl⟩
  have HR := Lib.hid hR
  have hsm := came_small curve turns
  rw [hR] at hsm
  rw [hR] at hC ⊢
  clear hR
  have HI := Lib.hid hI; clear hI hB
  obtain ⟨s01, s02, s03, rfl⟩ : ∃ a n c, cv = .slice a n c := by obtain ⟨a, n, c, hh, _⟩ := hA.curve; exact ⟨a, n, c, hh⟩
  obtain ⟨s11, s12, s13, rfl⟩ : ∃ a n c, chv = .slice a n c := by obtain ⟨a, n, c, hh, _⟩ := hA.chain; exact ⟨a, n, c, hh⟩
  obtain ⟨s21, s22, s23, rfl⟩ : ∃ a n c, cmv = .slice a n c := by obtain ⟨a, n, c, hh, _⟩ := hA.came; exact ⟨a, n, c, hh⟩
  obtain ⟨s31, s32, s33, rfl⟩ : ∃ a n c, adv = .slice a n c := by obtain ⟨a, n, c, hh, _⟩ := hA.added; exact ⟨a, n, c, hh⟩
  clear hA
  go_enter Try.func21, Try.ntmps21
  go_wp2_with fail
  refine hC.mono ?_
  rintro e w1 ⟨u, rfl, hF, P1⟩
  obtain ⟨u1, u2, u3, rfl⟩ : ∃ a n c, u = .slice a n c := by
    rcases hF.2 with ⟨rfl, _⟩ | ⟨g, cap, cur, rfl, _⟩ <;> exact ⟨_, _, _, rfl⟩
  have hP1 := P1.alloc (.cells #[.slice u1 u2 u3] 22)
  obtain ⟨hS0, hH0⟩ := step_pure hH hP1
  have hFB := (hF.lt)
  have hrow : (w1.alloc (.cells #[.slice u1 u2 u3] 22)).ownsRow w.heap.size 2 1 (.slice u1 u2 u3) R.1.length (R.1.map (.int .i64)) := World.ownsRow.alloc hF _
  have hnb : (w1.alloc (.cells #[.slice u1 u2 u3] 22)).heap[w1.heap.size]? = some (.cells #[.slice u1 u2 u3] 22 (0, 0)) := World.alloc_heap_new w1 _
  have hD : ∀ k, (Value.slice u1 u2 u3).ownBlock = some k → ¬ InHeap hb (w1.alloc (.cells #[.slice u1 u2 u3] 22)) k := fun k hk hi => by
    have h1 := (hFB k hk).1
    obtain ⟨vn, vs, hh, _, _⟩ := id hH
    have h2 := InHeap.lt hH (in_stay hP1 hh (fun f => f) hi)
    omega
  have hDn : ¬ InHeap hb (w1.alloc (.cells #[.slice u1 u2 u3] 22)) w1.heap.size := fun hi => by
    obtain ⟨vn, vs, hh, _, _⟩ := id hH
    have h2 := InHeap.lt hH (in_stay hP1 hh (fun f => f) hi)
    have := P1.size
    omega
  have hP1s := P1.size
  have HX := Lib.hid hFB; have HFl := Lib.hid hP1s
  clear hC P1 hF hFB
  go_wp2_with fail
  refine (putInt64s_any hb (.slice u1 u2 u3) _ [] [] _ [] _ hH0 hD (enc_row hrow) (by constructor <;> simp <;> omega)).mono ?_
  rintro e w2 ⟨rfl, hH1, hT1⟩
  have hS1 := hS0.trans hT1
  have hrow := owns_keep hrow hT1.only hD
  have hnb := hT1.only.heap hnb hDn
  have hlt : ∀ k, (Value.slice u1 u2 u3).ownBlock = some k → k < (w1.alloc (.cells #[.slice u1 u2 u3] 22)).heap.size := fun k hk => by have := (HX.out k hk).2; simp; omega
  have hD := hT1.apart hD hlt
  have hDn := hT1.apart (D := fun k => k = w1.heap.size) (fun k hk => by rw [hk]; exact hDn) (fun k hk => by rw [hk]; simp) _ rfl
  have hsz := hT1.only.size
  simp only [World.size_alloc] at hsz hlt
  go_wp2_with fail
  refine (putErrno_any hb (.int .i64 R.2) (fun _ => False) ([] ++ ((R.1.length : Int) :: R.1)) [] [R.2] [] _ hH1 (fun _ f => f.elim) (.num _ _) (by constructor <;> simp <;> omega)).mono ?_
  rintro e w3 ⟨rfl, hH2, hT2⟩
  have hS2 := hS1.trans hT2
  have hrow := owns_keep hrow hT2.only hD
  have hnb := hT2.only.heap hnb hDn
  have hD := hT2.apart hD (fun k hk => by have := hlt k hk; omega)
  have hDn := hT2.apart (D := fun k => k = w1.heap.size) (fun k hk => by rw [hk]; exact hDn) (fun k hk => by omega) _ rfl
  have hsz := Nat.le_trans hsz hT2.only.size
  have HS := Lib.hid hS2; have HH := Lib.hid hH2
  have HROW := Lib.hid hrow; have HNB := Lib.hid hnb; have HD := Lib.hid hD
  clear hrow hnb hD hDn hsz hlt
  go_wp2
  go_ret
  refine ⟨24, #[.pointer (some ⟨w1.heap.size, 0, none⟩)], fun k => (Value.slice u1 u2 u3).ownBlock = some k, rfl, enters_of Try.func24 (by kernel_rfl) rfl, by simpa using HH.out, HS.out, fun k hk => ⟨(HX.out k hk).1, HD.out k hk⟩, wipe_Came _ _ _ _ _ HROW.out (cell_of_row _ _ _ _ _ _ HNB.out)⟩

set_option maxHeartbeats 1000000 in
set_option maxRecDepth 100000 in
theorem ask_CheckAdded {W : World} {bx : Nat} {curve : List Int} {turns : Int} {chain : List (List Int)} {comes : Bool} {came added : List Int} {cv chv cmv adv : Value} (h : ArgsAt (fun k => k < W.heap.size) W bx curve turns chain comes came added cv chv cmv adv) (hbx : bx < W.heap.size) : Asks 26 bx W ([(checkAddedR curve came added)]) [] := by
  intro w hb hB hhb hH hI
  have hA := h.keep (Only.below hB) (fun k hk hn => by omega) (by omega)
  obtain ⟨x0, x1, x2, x3, x4, x5⟩ := hA.cells
  have hC := CheckAdded_any _ _ _ _ _ _ curve came added w hA.curve hA.came hA.added
  obtain ⟨R, hR⟩ : ∃ x, checkAddedR curve came added = x := ⟨_, rfl⟩
  have HR := Lib.hid hR
  rw [hR] at hC ⊢
  clear hR
  have HI := Lib.hid hI; clear hI hB
  obtain ⟨s01, s02, s03, rfl⟩ : ∃ a n c, cv = .slice a n c := by obtain ⟨a, n, c, hh, _⟩ := hA.curve; exact ⟨a, n, c, hh⟩
  obtain ⟨s11, s12, s13, rfl⟩ : ∃ a n c, chv = .slice a n c := by obtain ⟨a, n, c, hh, _⟩ := hA.chain; exact ⟨a, n, c, hh⟩
  obtain ⟨s21, s22, s23, rfl⟩ : ∃ a n c, cmv = .slice a n c := by obtain ⟨a, n, c, hh, _⟩ := hA.came; exact ⟨a, n, c, hh⟩
  obtain ⟨s31, s32, s33, rfl⟩ : ∃ a n c, adv = .slice a n c := by obtain ⟨a, n, c, hh, _⟩ := hA.added; exact ⟨a, n, c, hh⟩
  clear hA
  go_enter Try.func26, Try.ntmps26
  go_wp2_with fail
  refine hC.mono ?_
  rintro e w1 ⟨rfl, P1⟩
  obtain ⟨hS0, hH0⟩ := step_pure hH P1
  clear hC P1
  go_wp2_with fail
  refine (putErrno_any hb (.int .i64 R) (fun _ => False) [] [] [R] [] _ hH0 (fun _ f => f.elim) (.num _ _) (by constructor <;> simp)).mono ?_
  rintro e w2 ⟨rfl, hH1, hT1⟩
  have hS1 := hS0.trans hT1
  have HS := Lib.hid hS1; have HH := Lib.hid hH1
  go_wp2
  go_ret
  exact ⟨9, #[], fun _ => False, rfl, enters_of Try.func9 (by kernel_rfl) rfl, by simpa using HH.out, HS.out, fun _ f => f.elim, nothing_any _⟩

set_option maxHeartbeats 1000000 in
set_option maxRecDepth 100000 in
theorem wipe_Added (B nb : Nat) (v : Value) (l : List Int) (w : World) (h : w.ownsRow B 2 1 v l.length (l.map (.int .i64))) (hc : w.cell? ⟨nb, 0, none⟩ = some v) :
    Calls Try.prog 30 #[.pointer (some ⟨nb, 0, none⟩)] w fun e w' => e = .returned (.tuple #[]) ∧ Only (fun k => v.ownBlock = some k) w w' := by
  go_enter Try.func30, Try.ntmps30
  go_wp2_with fail
  refine (wipeInt64s_any B nb v l w h hc).mono ?_
  rintro e w2 ⟨rfl, hO⟩
  go_wp2
  go_end0
  exact ⟨rfl, hO⟩

set_option maxHeartbeats 1000000 in
set_option maxRecDepth 100000 in
theorem ask_Added {W : World} {bx : Nat} {curve : List Int} {turns : Int} {chain : List (List Int)} {comes : Bool} {came added : List Int} {cv chv cmv adv : Value} (h : ArgsAt (fun k => k < W.heap.size) W bx curve turns chain comes came added cv chv cmv adv) (hbx : bx < W.heap.size) : Asks 28 bx W ((((addedR curve came).1.length : Int) :: (addedR curve came).1) ++ [(addedR curve came).2]) [] := by
  intro w hb hB hhb hH hI
  have hA := h.keep (Only.below hB) (fun k hk hn => by omega) (by omega)
  obtain ⟨x0, x1, x2, x3, x4, x5⟩ := hA.cells
  have hC := Added_any _ _ _ _ curve came w hA.curve hA.came
  obtain ⟨R, hR⟩ : ∃ x, addedR curve came = x := ⟨_, rfl⟩
  have HR := Lib.hid hR
  have hsm := added_small curve came
  rw [hR] at hsm
  rw [hR] at hC ⊢
  clear hR
  have HI := Lib.hid hI; clear hI hB
  obtain ⟨s01, s02, s03, rfl⟩ : ∃ a n c, cv = .slice a n c := by obtain ⟨a, n, c, hh, _⟩ := hA.curve; exact ⟨a, n, c, hh⟩
  obtain ⟨s11, s12, s13, rfl⟩ : ∃ a n c, chv = .slice a n c := by obtain ⟨a, n, c, hh, _⟩ := hA.chain; exact ⟨a, n, c, hh⟩
  obtain ⟨s21, s22, s23, rfl⟩ : ∃ a n c, cmv = .slice a n c := by obtain ⟨a, n, c, hh, _⟩ := hA.came; exact ⟨a, n, c, hh⟩
  obtain ⟨s31, s32, s33, rfl⟩ : ∃ a n c, adv = .slice a n c := by obtain ⟨a, n, c, hh, _⟩ := hA.added; exact ⟨a, n, c, hh⟩
  clear hA
  go_enter Try.func28, Try.ntmps28
  go_wp2_with fail
  refine hC.mono ?_
  rintro e w1 ⟨u, rfl, hF, P1⟩
  obtain ⟨u1, u2, u3, rfl⟩ : ∃ a n c, u = .slice a n c := by
    rcases hF.2 with ⟨rfl, _⟩ | ⟨g, cap, cur, rfl, _⟩ <;> exact ⟨_, _, _, rfl⟩
  have hP1 := P1.alloc (.cells #[.slice u1 u2 u3] 22)
  obtain ⟨hS0, hH0⟩ := step_pure hH hP1
  have hFB := (hF.lt)
  have hrow : (w1.alloc (.cells #[.slice u1 u2 u3] 22)).ownsRow w.heap.size 2 1 (.slice u1 u2 u3) R.1.length (R.1.map (.int .i64)) := World.ownsRow.alloc hF _
  have hnb : (w1.alloc (.cells #[.slice u1 u2 u3] 22)).heap[w1.heap.size]? = some (.cells #[.slice u1 u2 u3] 22 (0, 0)) := World.alloc_heap_new w1 _
  have hD : ∀ k, (Value.slice u1 u2 u3).ownBlock = some k → ¬ InHeap hb (w1.alloc (.cells #[.slice u1 u2 u3] 22)) k := fun k hk hi => by
    have h1 := (hFB k hk).1
    obtain ⟨vn, vs, hh, _, _⟩ := id hH
    have h2 := InHeap.lt hH (in_stay hP1 hh (fun f => f) hi)
    omega
  have hDn : ¬ InHeap hb (w1.alloc (.cells #[.slice u1 u2 u3] 22)) w1.heap.size := fun hi => by
    obtain ⟨vn, vs, hh, _, _⟩ := id hH
    have h2 := InHeap.lt hH (in_stay hP1 hh (fun f => f) hi)
    have := P1.size
    omega
  have hP1s := P1.size
  have HX := Lib.hid hFB; have HFl := Lib.hid hP1s
  clear hC P1 hF hFB
  go_wp2_with fail
  refine (putInt64s_any hb (.slice u1 u2 u3) _ [] [] _ [] _ hH0 hD (enc_row hrow) (by constructor <;> simp <;> omega)).mono ?_
  rintro e w2 ⟨rfl, hH1, hT1⟩
  have hS1 := hS0.trans hT1
  have hrow := owns_keep hrow hT1.only hD
  have hnb := hT1.only.heap hnb hDn
  have hlt : ∀ k, (Value.slice u1 u2 u3).ownBlock = some k → k < (w1.alloc (.cells #[.slice u1 u2 u3] 22)).heap.size := fun k hk => by have := (HX.out k hk).2; simp; omega
  have hD := hT1.apart hD hlt
  have hDn := hT1.apart (D := fun k => k = w1.heap.size) (fun k hk => by rw [hk]; exact hDn) (fun k hk => by rw [hk]; simp) _ rfl
  have hsz := hT1.only.size
  simp only [World.size_alloc] at hsz hlt
  go_wp2_with fail
  refine (putErrno_any hb (.int .i64 R.2) (fun _ => False) ([] ++ ((R.1.length : Int) :: R.1)) [] [R.2] [] _ hH1 (fun _ f => f.elim) (.num _ _) (by constructor <;> simp <;> omega)).mono ?_
  rintro e w3 ⟨rfl, hH2, hT2⟩
  have hS2 := hS1.trans hT2
  have hrow := owns_keep hrow hT2.only hD
  have hnb := hT2.only.heap hnb hDn
  have hD := hT2.apart hD (fun k hk => by have := hlt k hk; omega)
  have hDn := hT2.apart (D := fun k => k = w1.heap.size) (fun k hk => by rw [hk]; exact hDn) (fun k hk => by omega) _ rfl
  have hsz := Nat.le_trans hsz hT2.only.size
  have HS := Lib.hid hS2; have HH := Lib.hid hH2
  have HROW := Lib.hid hrow; have HNB := Lib.hid hnb; have HD := Lib.hid hD
  clear hrow hnb hD hDn hsz hlt
  go_wp2
  go_ret
  refine ⟨30, #[.pointer (some ⟨w1.heap.size, 0, none⟩)], fun k => (Value.slice u1 u2 u3).ownBlock = some k, rfl, enters_of Try.func30 (by kernel_rfl) rfl, by simpa using HH.out, HS.out, fun k hk => ⟨(HX.out k hk).1, HD.out k hk⟩, wipe_Added _ _ _ _ _ HROW.out (cell_of_row _ _ _ _ _ _ HNB.out)⟩

set_option maxHeartbeats 1000000 in
set_option maxRecDepth 100000 in
theorem ask_Seen {W : World} {bx : Nat} {curve : List Int} {turns : Int} {chain : List (List Int)} {comes : Bool} {came added : List Int} {cv chv cmv adv : Value} (h : ArgsAt (fun k => k < W.heap.size) W bx curve turns chain comes came added cv chv cmv adv) (hbx : bx < W.heap.size) : Asks 31 bx W ([(seenR came added).1] ++ [(seenR came added).2.1] ++ [(seenR came added).2.2]) [] := by
  intro w hb hB hhb hH hI
  have hA := h.keep (Only.below hB) (fun k hk hn => by omega) (by omega)
  obtain ⟨x0, x1, x2, x3, x4, x5⟩ := hA.cells
  have hC := Seen_any _ _ _ _ came added w hA.came hA.added
  obtain ⟨R, hR⟩ : ∃ x, seenR came added = x := ⟨_, rfl⟩
  have HR := Lib.hid hR
  rw [hR] at hC ⊢
  clear hR
  have HI := Lib.hid hI; clear hI hB
  obtain ⟨s01, s02, s03, rfl⟩ : ∃ a n c, cv = .slice a n c := by obtain ⟨a, n, c, hh, _⟩ := hA.curve; exact ⟨a, n, c, hh⟩
  obtain ⟨s11, s12, s13, rfl⟩ : ∃ a n c, chv = .slice a n c := by obtain ⟨a, n, c, hh, _⟩ := hA.chain; exact ⟨a, n, c, hh⟩
  obtain ⟨s21, s22, s23, rfl⟩ : ∃ a n c, cmv = .slice a n c := by obtain ⟨a, n, c, hh, _⟩ := hA.came; exact ⟨a, n, c, hh⟩
  obtain ⟨s31, s32, s33, rfl⟩ : ∃ a n c, adv = .slice a n c := by obtain ⟨a, n, c, hh, _⟩ := hA.added; exact ⟨a, n, c, hh⟩
  clear hA
  go_enter Try.func31, Try.ntmps31
  go_wp2_with fail
  refine hC.mono ?_
  rintro e w1 ⟨rfl, P1⟩
  obtain ⟨hS0, hH0⟩ := step_pure hH P1
  clear hC P1
  go_wp2_with fail
  refine (putInt64_any hb (.int .i64 R.1) (fun _ => False) [] [] [R.1] [] _ hH0 (fun _ f => f.elim) (.num _ _) (by constructor <;> simp)).mono ?_
  rintro e w2 ⟨rfl, hH1, hT1⟩
  have hS1 := hS0.trans hT1
  go_wp2_with fail
  refine (putInt64_any hb (.int .i64 R.2.1) (fun _ => False) ([] ++ [R.1]) [] [R.2.1] [] _ hH1 (fun _ f => f.elim) (.num _ _) (by constructor <;> simp)).mono ?_
  rintro e w3 ⟨rfl, hH2, hT2⟩
  have hS2 := hS1.trans hT2
  go_wp2_with fail
  refine (putErrno_any hb (.int .i64 R.2.2) (fun _ => False) (([] ++ [R.1]) ++ [R.2.1]) [] [R.2.2] [] _ hH2 (fun _ f => f.elim) (.num _ _) (by constructor <;> simp)).mono ?_
  rintro e w4 ⟨rfl, hH3, hT3⟩
  have hS3 := hS2.trans hT3
  have HS := Lib.hid hS3; have HH := Lib.hid hH3
  go_wp2
  go_ret
  exact ⟨9, #[], fun _ => False, rfl, enters_of Try.func9 (by kernel_rfl) rfl, by simpa using HH.out, HS.out, fun _ f => f.elim, nothing_any _⟩

set_option maxHeartbeats 1000000 in
set_option maxRecDepth 100000 in
theorem ask_Wait {W : World} {bx : Nat} {curve : List Int} {turns : Int} {chain : List (List Int)} {comes : Bool} {came added : List Int} {cv chv cmv adv : Value} (h : ArgsAt (fun k => k < W.heap.size) W bx curve turns chain comes came added cv chv cmv adv) (hbx : bx < W.heap.size) : Asks 33 bx W ([(waitR curve chain).1] ++ [(waitR curve chain).2]) [] := by
  intro w hb hB hhb hH hI
  have hA := h.keep (Only.below hB) (fun k hk hn => by omega) (by omega)
  obtain ⟨x0, x1, x2, x3, x4, x5⟩ := hA.cells
  have hC := Wait_any _ _ _ _ curve chain w hA.curve hA.chain
  obtain ⟨R, hR⟩ : ∃ x, waitR curve chain = x := ⟨_, rfl⟩
  have HR := Lib.hid hR
  rw [hR] at hC ⊢
  clear hR
  have HI := Lib.hid hI; clear hI hB
  obtain ⟨s01, s02, s03, rfl⟩ : ∃ a n c, cv = .slice a n c := by obtain ⟨a, n, c, hh, _⟩ := hA.curve; exact ⟨a, n, c, hh⟩
  obtain ⟨s11, s12, s13, rfl⟩ : ∃ a n c, chv = .slice a n c := by obtain ⟨a, n, c, hh, _⟩ := hA.chain; exact ⟨a, n, c, hh⟩
  obtain ⟨s21, s22, s23, rfl⟩ : ∃ a n c, cmv = .slice a n c := by obtain ⟨a, n, c, hh, _⟩ := hA.came; exact ⟨a, n, c, hh⟩
  obtain ⟨s31, s32, s33, rfl⟩ : ∃ a n c, adv = .slice a n c := by obtain ⟨a, n, c, hh, _⟩ := hA.added; exact ⟨a, n, c, hh⟩
  clear hA
  go_enter Try.func33, Try.ntmps33
  go_wp2_with fail
  refine hC.mono ?_
  rintro e w1 ⟨rfl, P1⟩
  obtain ⟨hS0, hH0⟩ := step_pure hH P1
  clear hC P1
  go_wp2_with fail
  refine (putInt64_any hb (.int .i64 R.1) (fun _ => False) [] [] [R.1] [] _ hH0 (fun _ f => f.elim) (.num _ _) (by constructor <;> simp)).mono ?_
  rintro e w2 ⟨rfl, hH1, hT1⟩
  have hS1 := hS0.trans hT1
  go_wp2_with fail
  refine (putErrno_any hb (.int .i64 R.2) (fun _ => False) ([] ++ [R.1]) [] [R.2] [] _ hH1 (fun _ f => f.elim) (.num _ _) (by constructor <;> simp)).mono ?_
  rintro e w3 ⟨rfl, hH2, hT2⟩
  have hS2 := hS1.trans hT2
  have HS := Lib.hid hS2; have HH := Lib.hid hH2
  go_wp2
  go_ret
  exact ⟨9, #[], fun _ => False, rfl, enters_of Try.func9 (by kernel_rfl) rfl, by simpa using HH.out, HS.out, fun _ f => f.elim, nothing_any _⟩

set_option maxHeartbeats 1000000 in
set_option maxRecDepth 100000 in
theorem ask_Late {W : World} {bx : Nat} {curve : List Int} {turns : Int} {chain : List (List Int)} {comes : Bool} {came added : List Int} {cv chv cmv adv : Value} (h : ArgsAt (fun k => k < W.heap.size) W bx curve turns chain comes came added cv chv cmv adv) (hbx : bx < W.heap.size) : Asks 35 bx W ([(lateR curve chain).1] ++ [(lateR curve chain).2]) [] := by
  intro w hb hB hhb hH hI
  have hA := h.keep (Only.below hB) (fun k hk hn => by omega) (by omega)
  obtain ⟨x0, x1, x2, x3, x4, x5⟩ := hA.cells
  have hC := Late_any _ _ _ _ curve chain w hA.curve hA.chain
  obtain ⟨R, hR⟩ : ∃ x, lateR curve chain = x := ⟨_, rfl⟩
  have HR := Lib.hid hR
  rw [hR] at hC ⊢
  clear hR
  have HI := Lib.hid hI; clear hI hB
  obtain ⟨s01, s02, s03, rfl⟩ : ∃ a n c, cv = .slice a n c := by obtain ⟨a, n, c, hh, _⟩ := hA.curve; exact ⟨a, n, c, hh⟩
  obtain ⟨s11, s12, s13, rfl⟩ : ∃ a n c, chv = .slice a n c := by obtain ⟨a, n, c, hh, _⟩ := hA.chain; exact ⟨a, n, c, hh⟩
  obtain ⟨s21, s22, s23, rfl⟩ : ∃ a n c, cmv = .slice a n c := by obtain ⟨a, n, c, hh, _⟩ := hA.came; exact ⟨a, n, c, hh⟩
  obtain ⟨s31, s32, s33, rfl⟩ : ∃ a n c, adv = .slice a n c := by obtain ⟨a, n, c, hh, _⟩ := hA.added; exact ⟨a, n, c, hh⟩
  clear hA
  go_enter Try.func35, Try.ntmps35
  go_wp2_with fail
  refine hC.mono ?_
  rintro e w1 ⟨rfl, P1⟩
  obtain ⟨hS0, hH0⟩ := step_pure hH P1
  clear hC P1
  go_wp2_with fail
  refine (putInt64_any hb (.int .i64 R.1) (fun _ => False) [] [] [R.1] [] _ hH0 (fun _ f => f.elim) (.num _ _) (by constructor <;> simp)).mono ?_
  rintro e w2 ⟨rfl, hH1, hT1⟩
  have hS1 := hS0.trans hT1
  go_wp2_with fail
  refine (putErrno_any hb (.int .i64 R.2) (fun _ => False) ([] ++ [R.1]) [] [R.2] [] _ hH1 (fun _ f => f.elim) (.num _ _) (by constructor <;> simp)).mono ?_
  rintro e w3 ⟨rfl, hH2, hT2⟩
  have hS2 := hS1.trans hT2
  have HS := Lib.hid hS2; have HH := Lib.hid hH2
  go_wp2
  go_ret
  exact ⟨9, #[], fun _ => False, rfl, enters_of Try.func9 (by kernel_rfl) rfl, by simpa using HH.out, HS.out, fun _ f => f.elim, nothing_any _⟩

set_option maxHeartbeats 1000000 in
set_option maxRecDepth 100000 in
theorem wipe_Behind (B nb : Nat) (v : Value) (l : List Int) (w : World) (h : w.ownsRow B 2 1 v l.length (l.map (.int .i64))) (hc : w.cell? ⟨nb, 0, none⟩ = some v) :
    Calls Try.prog 39 #[.pointer (some ⟨nb, 0, none⟩)] w fun e w' => e = .returned (.tuple #[]) ∧ Only (fun k => v.ownBlock = some k) w w' := by
  go_enter Try.func39, Try.ntmps39
  go_wp2_with fail
  refine (wipeInt64s_any B nb v l w h hc).mono ?_
  rintro e w2 ⟨rfl, hO⟩
  go_wp2
  go_end0
  exact ⟨rfl, hO⟩

set_option maxHeartbeats 1000000 in
set_option maxRecDepth 100000 in
theorem ask_Behind {W : World} {bx : Nat} {curve : List Int} {turns : Int} {chain : List (List Int)} {comes : Bool} {came added : List Int} {cv chv cmv adv : Value} (h : ArgsAt (fun k => k < W.heap.size) W bx curve turns chain comes came added cv chv cmv adv) (hbx : bx < W.heap.size) : Asks 37 bx W ((((behindR curve chain).1.length : Int) :: (behindR curve chain).1) ++ [(behindR curve chain).2]) [] := by
  intro w hb hB hhb hH hI
  have hA := h.keep (Only.below hB) (fun k hk hn => by omega) (by omega)
  obtain ⟨x0, x1, x2, x3, x4, x5⟩ := hA.cells
  have hC := Behind_any _ _ _ _ curve chain w hA.curve hA.chain
  obtain ⟨R, hR⟩ : ∃ x, behindR curve chain = x := ⟨_, rfl⟩
  have HR := Lib.hid hR
  have hsm := behind_small curve chain
  rw [hR] at hsm
  rw [hR] at hC ⊢
  clear hR
  have HI := Lib.hid hI; clear hI hB
  obtain ⟨s01, s02, s03, rfl⟩ : ∃ a n c, cv = .slice a n c := by obtain ⟨a, n, c, hh, _⟩ := hA.curve; exact ⟨a, n, c, hh⟩
  obtain ⟨s11, s12, s13, rfl⟩ : ∃ a n c, chv = .slice a n c := by obtain ⟨a, n, c, hh, _⟩ := hA.chain; exact ⟨a, n, c, hh⟩
  obtain ⟨s21, s22, s23, rfl⟩ : ∃ a n c, cmv = .slice a n c := by obtain ⟨a, n, c, hh, _⟩ := hA.came; exact ⟨a, n, c, hh⟩
  obtain ⟨s31, s32, s33, rfl⟩ : ∃ a n c, adv = .slice a n c := by obtain ⟨a, n, c, hh, _⟩ := hA.added; exact ⟨a, n, c, hh⟩
  clear hA
  go_enter Try.func37, Try.ntmps37
  go_wp2_with fail
  refine hC.mono ?_
  rintro e w1 ⟨u, rfl, hF, P1⟩
  obtain ⟨u1, u2, u3, rfl⟩ : ∃ a n c, u = .slice a n c := by
    rcases hF.2 with ⟨rfl, _⟩ | ⟨g, cap, cur, rfl, _⟩ <;> exact ⟨_, _, _, rfl⟩
  have hP1 := P1.alloc (.cells #[.slice u1 u2 u3] 22)
  obtain ⟨hS0, hH0⟩ := step_pure hH hP1
  have hFB := (hF.lt)
  have hrow : (w1.alloc (.cells #[.slice u1 u2 u3] 22)).ownsRow w.heap.size 2 1 (.slice u1 u2 u3) R.1.length (R.1.map (.int .i64)) := World.ownsRow.alloc hF _
  have hnb : (w1.alloc (.cells #[.slice u1 u2 u3] 22)).heap[w1.heap.size]? = some (.cells #[.slice u1 u2 u3] 22 (0, 0)) := World.alloc_heap_new w1 _
  have hD : ∀ k, (Value.slice u1 u2 u3).ownBlock = some k → ¬ InHeap hb (w1.alloc (.cells #[.slice u1 u2 u3] 22)) k := fun k hk hi => by
    have h1 := (hFB k hk).1
    obtain ⟨vn, vs, hh, _, _⟩ := id hH
    have h2 := InHeap.lt hH (in_stay hP1 hh (fun f => f) hi)
    omega
  have hDn : ¬ InHeap hb (w1.alloc (.cells #[.slice u1 u2 u3] 22)) w1.heap.size := fun hi => by
    obtain ⟨vn, vs, hh, _, _⟩ := id hH
    have h2 := InHeap.lt hH (in_stay hP1 hh (fun f => f) hi)
    have := P1.size
    omega
  have hP1s := P1.size
  have HX := Lib.hid hFB; have HFl := Lib.hid hP1s
  clear hC P1 hF hFB
  go_wp2_with fail
  refine (putInt64s_any hb (.slice u1 u2 u3) _ [] [] _ [] _ hH0 hD (enc_row hrow) (by constructor <;> simp <;> omega)).mono ?_
  rintro e w2 ⟨rfl, hH1, hT1⟩
  have hS1 := hS0.trans hT1
  have hrow := owns_keep hrow hT1.only hD
  have hnb := hT1.only.heap hnb hDn
  have hlt : ∀ k, (Value.slice u1 u2 u3).ownBlock = some k → k < (w1.alloc (.cells #[.slice u1 u2 u3] 22)).heap.size := fun k hk => by have := (HX.out k hk).2; simp; omega
  have hD := hT1.apart hD hlt
  have hDn := hT1.apart (D := fun k => k = w1.heap.size) (fun k hk => by rw [hk]; exact hDn) (fun k hk => by rw [hk]; simp) _ rfl
  have hsz := hT1.only.size
  simp only [World.size_alloc] at hsz hlt
  go_wp2_with fail
  refine (putErrno_any hb (.int .i64 R.2) (fun _ => False) ([] ++ ((R.1.length : Int) :: R.1)) [] [R.2] [] _ hH1 (fun _ f => f.elim) (.num _ _) (by constructor <;> simp <;> omega)).mono ?_
  rintro e w3 ⟨rfl, hH2, hT2⟩
  have hS2 := hS1.trans hT2
  have hrow := owns_keep hrow hT2.only hD
  have hnb := hT2.only.heap hnb hDn
  have hD := hT2.apart hD (fun k hk => by have := hlt k hk; omega)
  have hDn := hT2.apart (D := fun k => k = w1.heap.size) (fun k hk => by rw [hk]; exact hDn) (fun k hk => by omega) _ rfl
  have hsz := Nat.le_trans hsz hT2.only.size
  have HS := Lib.hid hS2; have HH := Lib.hid hH2
  have HROW := Lib.hid hrow; have HNB := Lib.hid hnb; have HD := Lib.hid hD
  clear hrow hnb hD hDn hsz hlt
  go_wp2
  go_ret
  refine ⟨39, #[.pointer (some ⟨w1.heap.size, 0, none⟩)], fun k => (Value.slice u1 u2 u3).ownBlock = some k, rfl, enters_of Try.func39 (by kernel_rfl) rfl, by simpa using HH.out, HS.out, fun k hk => ⟨(HX.out k hk).1, HD.out k hk⟩, wipe_Behind _ _ _ _ _ HROW.out (cell_of_row _ _ _ _ _ _ HNB.out)⟩
end Go.Proofs.Ytcephfmafmmilaa
