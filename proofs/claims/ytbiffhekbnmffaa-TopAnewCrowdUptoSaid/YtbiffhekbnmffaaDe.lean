/-
  For every argument whose reading is of bulk at most 1048576, TopAnewCrowd returns true, and its argument reads behind the call as it read before. Conditions: the given statement's own.
-/
import Derived.Test.YtbiffhekbnmffaaRows
import Derived.WalkKit
import Derived.ProofKit
import Derived.OpenShut
import Derived.JoinedCond
import Derived.Carry
import Derived.Test.YtbiffhekbnmffaaDd
namespace Go.Proofs.Ytbiffhekbnmffaa
open Go.ChangeShapes Go.WideShapes Go.ChangeAt Go.RowKit
set_option linter.unusedVariables false

theorem own : ownKnob Try.prog.godebug = none := by kernel_rfl

theorem sh2 : HasSh Try.prog 2 (.num .i64) := .int Try.underlying2
theorem sh3 : HasSh Try.prog 3 (.num .i64) := .int Try.underlying3
theorem sh46 : HasSh Try.prog 46 (.agg [.num .i64, .num .i64]) := .agg Try.underlying46 (.cons (by kernel_rfl) sh2 (by kernel_rfl) (.cons (by kernel_rfl) sh2 (by kernel_rfl) .nil)) (by kernel_rfl)
theorem sh64 : HasSh Try.prog 64 personSh := .agg Try.underlying64 (.cons (by kernel_rfl) sh46 (by kernel_rfl) (.cons (by kernel_rfl) sh2 (by kernel_rfl) .nil)) (by kernel_rfl)
theorem sh22 : HasSh Try.prog 22 (.list personSh) := .list Try.underlying22 sh64 (by kernel_rfl) (by decide)
theorem sh24 : HasSh Try.prog 24 (.agg [.num .i64, .list personSh]) := .agg Try.underlying24 (.cons (by kernel_rfl) sh2 (by kernel_rfl) (.cons (by kernel_rfl) sh22 (by kernel_rfl) .nil)) (by kernel_rfl)
theorem sh25 : HasSh Try.prog 25 (.list (.num .i64)) := .list Try.underlying25 sh2 (by kernel_rfl) (by decide)
theorem shArg : HasSh Try.prog 27 argSh := .agg Try.underlying27 (.cons (by kernel_rfl) sh24 (by kernel_rfl) (.cons (by kernel_rfl) sh3 (by kernel_rfl) (.cons (by kernel_rfl) sh25 (by kernel_rfl) (.cons (by kernel_rfl) sh2 (by kernel_rfl) (.cons (by kernel_rfl) sh2 (by kernel_rfl) (.cons (by kernel_rfl) sh25 (by kernel_rfl) (.cons (by kernel_rfl) sh3 (by kernel_rfl) (.cons (by kernel_rfl) sh2 (by kernel_rfl) .nil)))))))) (by kernel_rfl)
theorem laidOut : laidOutB Try.prog = true := by kernel_rfl

set_option maxRecDepth 100000 in
theorem contract (H : Type) (enc : TypeId × Value → H) (W : World) (base : Nat) (args : Array Value) (ds gs : List (DataW H)) (before : List MemPlace)
    (hval : ∀ (j : Nat) t v, Try.f3.params[j]? = some t → args[j]? = some v → Value.okWide Try.prog W .any base t v)
    (hW : DataW.Whole enc Try.prog Try.f3.params.toList Rows.topAnewCrowdSpec.vars false W args.toList ds gs before) (hk : Rows.uptoSmall H (ds ++ gs) = true) :
    Calls Try.prog 3 args W fun e W' => ∃ v, e = .returned v ∧ Rows.topAnewCrowdSpec.post enc Try.prog Try.f3 false true false false W args v W' := by
  have hW' := hW
  obtain ⟨p, q, hA0, hV, rfl, hfz, hnd⟩ := hW
  have hA : DataW.TrodAll enc Try.prog W 0 (fun _ => true) true Try.f3.params.toList args.toList ds p := hA0
  rw [Try.params3] at hA hval
  obtain ⟨v0, vs0, d0, ds0, p0, q0, hargs, rfl, rfl, h0, r0⟩ := trodAll_cons hA
  obtain ⟨rfl, rfl, rfl⟩ := trodAll_nil r0
  obtain rfl : args = #[v0] := by cases args; simp_all
  obtain ⟨rfl, rfl⟩ := trodVars_none hV
  clear hA0
  simp only [List.append_nil] at hW' hk
  have hok := hval 0 27 v0 rfl rfl
  unfold Value.okWide at hok
  rw [Try.underlying27] at hok
  obtain ⟨cs, rfl, hcs, _⟩ := hok
  obtain ⟨fuel, hf⟩ := id h0
  obtain ⟨ns, ss, hE, hbulk⟩ := good_of_trod fuel 27 argSh cs.toList (d0, p0) shArg (by simpa [Value.cells] using hf)
  have hlen := hE.len
  have hR : Room ns ss := by
    have h1 : Rows.uptoBulkAll [d0] ≤ 1048576 := by simpa [Rows.uptoSmall] using hk
    simp only [Rows.uptoBulkAll] at h1
    have hb : ns.length + ss.length ≤ Rows.uptoBulk d0 := hbulk
    constructor <;> omega
  obtain ⟨cs⟩ := cs
  simp only at hE hlen hf
  match cs, hlen with
  | [c0, c1, c2, c3, c4, c5, c6, c7, c8], _ =>
  obtain ⟨_, _, _, _, _, _, e0, r0⟩ := Enc.split (l1 := [c0, c1]) (l2 := [c2, c3, c4, c5, c6, c7, c8]) hE rfl
  obtain ⟨_, _, _, _, _, _, f0, q0⟩ := Enc.split (l1 := [c0]) (l2 := [c1]) e0 rfl
  obtain ⟨_, _, _, _, _, _, f1, q1⟩ := Enc.split (l1 := [c1]) (l2 := []) q0 rfl
  obtain ⟨_, _, _, _, _, _, e2, r2⟩ := Enc.split (l1 := [c2]) (l2 := [c3, c4, c5, c6, c7, c8]) r0 rfl
  obtain ⟨_, _, _, _, _, _, e3, r3⟩ := Enc.split (l1 := [c3]) (l2 := [c4, c5, c6, c7, c8]) r2 rfl
  obtain ⟨_, _, _, _, _, _, e4, r4⟩ := Enc.split (l1 := [c4]) (l2 := [c5, c6, c7, c8]) r3 rfl
  obtain ⟨_, _, _, _, _, _, e5, r5⟩ := Enc.split (l1 := [c5]) (l2 := [c6, c7, c8]) r4 rfl
  obtain ⟨_, _, _, _, _, _, e6, r6⟩ := Enc.split (l1 := [c6]) (l2 := [c7, c8]) r5 rfl
  obtain ⟨_, _, _, _, _, _, e7, r7⟩ := Enc.split (l1 := [c7]) (l2 := [c8]) r6 rfl
  obtain ⟨_, _, _, _, _, _, e8, r8⟩ := Enc.split (l1 := [c8]) (l2 := []) r7 rfl
  obtain ⟨minutes, rfl, _, _⟩ := f0.open_num
  obtain ⟨people, hp⟩ := people_of_enc f1
  obtain ⟨mach, rfl, _, _⟩ := e2.open_num
  obtain ⟨plan, hpl⟩ := ints_of_enc e3
  obtain ⟨fr, rfl, _, _⟩ := e4.open_num
  obtain ⟨til, rfl, _, _⟩ := e5.open_num
  obtain ⟨truth, ht⟩ := ints_of_enc e6
  obtain ⟨person, rfl, _, _⟩ := e7.open_num
  obtain ⟨minute, rfl, _, _⟩ := e8.open_num
  refine (TopAnewCrowd_any (fun k => k < W.heap.size) W (h0 := ⟨minutes, people⟩) (mach := mach) (plan := plan) (fr := fr) (til := til) (truth := truth) (person := person) (minute := minute) (pv := c1) (plv := c3) (tv := c6) ns ss (fun k hk => hk) hp hpl ht hE hR).mono fun e W' ⟨he, hB⟩ => ?_
  subst he
  have hlt : ∀ x ∈ p0, x.block < W.heap.size := fun x hx => by simpa using hW'.lt x (by simpa using hx)
  refine ⟨_, rfl, _, _, _, [], p0, [], hW', ?_, ?_, ?_, hB.frame _, fun h => by cases h⟩
  · exact trodAll_cons_mk (shut_bool Try.underlying4 _) trodAll_mk0
  · rw [Try.params3]
    exact trodAll_mk1 (Below.trod laidOut (by kernel_rfl) (of_decide_eq_true (by kernel_rfl)) h0 hB hlt)
  · rfl

set_option maxRecDepth 100000 in
theorem lifted (os : Os) (started : os.Started) (H : Type) (enc : TypeId × Value → H) (F : Stop.Interp) :
    ReturnsInHanded {} Try.checked os 3 .any ((Rows.OpenSpec.upto Rows.topAnewCrowdSpec).pre6 enc Try.prog Try.f3 Rows.topAnewCrowdUptoRow.domain false) (((Rows.OpenSpec.upto Rows.topAnewCrowdSpec).at F).post enc Try.prog Try.f3 false true false false) := by
  refine returnsInHanded_of_cond (C := Try.checked) (s := Rows.OpenSpec.upto Rows.topAnewCrowdSpec) (k := Rows.uptoSmall) rfl own started (by kernel_rfl) Try.func3
    (OpenSpec.witness (enc := enc) (C := Try.checked) (s := Rows.OpenSpec.upto Rows.topAnewCrowdSpec) (k := Rows.uptoSmall) rfl false ⟨#[], #[.agg #[.int .i64 0, .slice none 0 0, .int .i64 0, .slice none 0 0, .int .i64 0, .int .i64 0, .slice none 0 0, .int .i64 0, .int .i64 0]], []⟩ 8 (by kernel_rfl) (by kernel_rfl) (by kernel_rfl)
      (x := ([.agg [.agg [.lit (.int .i64 0), .nil], .lit (.int .i64 0), .nil, .lit (.int .i64 0), .lit (.int .i64 0), .nil, .lit (.int .i64 0), .lit (.int .i64 0)]], [], [])) (by kernel_rfl) rfl (by kernel_rfl)) ?_
  intro W base args ds gs before hval hW _ hk _
  exact contract H enc W base args ds gs before hval hW hk

theorem over : Rows.topAnewCrowdUptoRow.holds Try.pinned (Rows.OpenSpec.upto Rows.topAnewCrowdSpec) :=
  OpenClaim.holds_of_cond 3 Try.f3 rfl rfl rfl rfl rfl rfl rfl ⟨rfl, rfl, rfl, rfl, rfl⟩ rfl rfl rfl rfl rfl (by kernel_rfl) Try.func3 (by kernel_rfl)
    (of_decide_eq_true (by kernel_rfl)) (by unfold Func.isWrapper; first | (rw [if_pos (by decide +kernel)]; kernel_rfl) | (rw [if_neg (by decide +kernel)]; exact ⟨rfl, rfl⟩))
    (fun os started H enc _ F => lifted os started H enc F)

theorem proved : Rows.TopAnewCrowdUptoSaid :=
  over
#print axioms proved
end Go.Proofs.Ytbiffhekbnmffaa
