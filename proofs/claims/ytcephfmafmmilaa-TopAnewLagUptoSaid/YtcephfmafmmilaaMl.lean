/-
  For every argument whose reading is of bulk at most 1048576, TopAnewLag returns true, and its argument reads behind the call as it read before. Conditions: the given statement's own.
-/
import Derived.Test.YtcephfmafmmilaaRows
import Derived.WalkKit
import Derived.ProofKit
import Derived.OpenShut
import Derived.JoinedCond
import Derived.Carry
import Derived.Test.YtcephfmafmmilaaMk
namespace Go.Proofs.Ytcephfmafmmilaa
open Go.ChangeShapes Go.WideShapes Go.ChangeAt Go.RowKit
set_option linter.unusedVariables false

theorem own : ownKnob Try.prog.godebug = none := by kernel_rfl

theorem sh2 : HasSh Try.prog 2 (.num .i64) := .int Try.underlying2
theorem sh3 : HasSh Try.prog 3 (.num .i64) := .int Try.underlying3
theorem sh4 : HasSh Try.prog 4 .bool := .bool Try.underlying4
theorem sh22 : HasSh Try.prog 22 (.list (.num .i64)) := .list Try.underlying22 sh2 (by kernel_rfl) (by decide)
theorem sh23 : HasSh Try.prog 23 (.list (.list (.num .i64))) := .list Try.underlying23 sh22 (by kernel_rfl) (by decide)
theorem shArg : HasSh Try.prog 25 argSh := .agg Try.underlying25 (.cons (by kernel_rfl) sh22 (by kernel_rfl) (.cons (by kernel_rfl) sh3 (by kernel_rfl) (.cons (by kernel_rfl) sh23 (by kernel_rfl) (.cons (by kernel_rfl) sh4 (by kernel_rfl) (.cons (by kernel_rfl) sh22 (by kernel_rfl) (.cons (by kernel_rfl) sh22 (by kernel_rfl) .nil)))))) (by kernel_rfl)
theorem laidOut : laidOutB Try.prog = true := by kernel_rfl

set_option maxRecDepth 100000 in
theorem contract (H : Type) (enc : TypeId × Value → H) (W : World) (base : Nat) (args : Array Value) (ds gs : List (DataW H)) (before : List MemPlace)
    (hval : ∀ (j : Nat) t v, Try.f3.params[j]? = some t → args[j]? = some v → Value.okWide Try.prog W .any base t v)
    (hW : DataW.Whole enc Try.prog Try.f3.params.toList Rows.topAnewLagSpec.vars false W args.toList ds gs before) (hk : Rows.uptoSmall H (ds ++ gs) = true) :
    Calls Try.prog 3 args W fun e W' => ∃ v, e = .returned v ∧ Rows.topAnewLagSpec.post enc Try.prog Try.f3 false true false false W args v W' := by
  have hW' := hW
  obtain ⟨p, q, hA0, hV, rfl, hfz, hnd⟩ := hW
  have hA : DataW.TrodAll enc Try.prog W 0 (fun _ => true) true Try.f3.params.toList args.toList ds p := hA0
  rw [Try.params3] at hA hval
  obtain ⟨v0, vs0, d0, ds0, p0, q0, hargs, rfl, rfl, h0, r0⟩ := trodAll_cons hA
  obtain ⟨rfl, rfl, rfl⟩ := trodAll_nil r0
  obtain rfl : args = #[v0] := by cases args; simp_all
  obtain ⟨rfl, rfl⟩ := trodVars_none hV
  clear hA0
  simp only [List.append_nil] at hW' hk
  have hok := hval 0 25 v0 rfl rfl
  unfold Value.okWide at hok
  rw [Try.underlying25] at hok
  obtain ⟨cs, rfl, hcs, _⟩ := hok
  obtain ⟨fuel, hf⟩ := id h0
  obtain ⟨ns, ss, hE, hbulk⟩ := good_of_trod fuel 25 argSh cs.toList (d0, p0) shArg (by simpa [Value.cells] using hf)
  have hlen := hE.len
  have hR : Room ns ss := by
    have h1 : Rows.uptoBulkAll [d0] ≤ 1048576 := by simpa [Rows.uptoSmall] using hk
    simp only [Rows.uptoBulkAll] at h1
    have hb : ns.length + ss.length ≤ Rows.uptoBulk d0 := hbulk
    constructor <;> omega
  obtain ⟨cs⟩ := cs
  simp only at hE hlen hf
  match cs, hlen with
  | [c0, c1, c2, c3, c4, c5], _ =>
  obtain ⟨_, _, _, _, _, _, e0, r0⟩ := Enc.split (l1 := [c0]) (l2 := [c1, c2, c3, c4, c5]) hE rfl
  obtain ⟨_, _, _, _, _, _, e1, r1⟩ := Enc.split (l1 := [c1]) (l2 := [c2, c3, c4, c5]) r0 rfl
  obtain ⟨_, _, _, _, _, _, e2, r2⟩ := Enc.split (l1 := [c2]) (l2 := [c3, c4, c5]) r1 rfl
  obtain ⟨_, _, _, _, _, _, e3, r3⟩ := Enc.split (l1 := [c3]) (l2 := [c4, c5]) r2 rfl
  obtain ⟨_, _, _, _, _, _, e4, r4⟩ := Enc.split (l1 := [c4]) (l2 := [c5]) r3 rfl
  obtain ⟨_, _, _, _, _, _, e5, r5⟩ := Enc.split (l1 := [c5]) (l2 := []) r4 rfl
  obtain ⟨curve, hcu⟩ := ints_of_enc e0
  obtain ⟨turns, rfl, _, _⟩ := e1.open_num
  obtain ⟨chain, hch⟩ := lists_of_enc e2
  obtain ⟨comes, rfl, _, _⟩ := e3.open_bool
  obtain ⟨came, hcm⟩ := ints_of_enc e4
  obtain ⟨added, had⟩ := ints_of_enc e5
  refine (TopAnewLag_any (fun k => k < W.heap.size) W (curve := curve) (turns := turns) (chain := chain) (comes := comes) (came := came) (added := added) (cv := c0) (chv := c2) (cmv := c4) (adv := c5) ns ss (fun k hk => hk) hcu hch hcm had hE hR).mono fun e W' ⟨he, hB⟩ => ?_
  subst he
  have hlt : ∀ x ∈ p0, x.block < W.heap.size := fun x hx => by simpa using hW'.lt x (by simpa using hx)
  refine ⟨_, rfl, _, _, _, [], p0, [], hW', ?_, ?_, ?_, hB.frame _, fun h => by cases h⟩
  · exact trodAll_cons_mk (shut_bool Try.underlying4 _) trodAll_mk0
  · rw [Try.params3]
    exact trodAll_mk1 (Below.trod laidOut (by kernel_rfl) (of_decide_eq_true (by kernel_rfl)) h0 hB hlt)
  · rfl

set_option maxRecDepth 100000 in
theorem lifted (os : Os) (started : os.Started) (H : Type) (enc : TypeId × Value → H) (F : Stop.Interp) :
    ReturnsInHanded {} Try.checked os 3 .any ((Rows.OpenSpec.upto Rows.topAnewLagSpec).pre6 enc Try.prog Try.f3 Rows.topAnewLagUptoRow.domain false) (((Rows.OpenSpec.upto Rows.topAnewLagSpec).at F).post enc Try.prog Try.f3 false true false false) := by
  refine returnsInHanded_of_cond (C := Try.checked) (s := Rows.OpenSpec.upto Rows.topAnewLagSpec) (k := Rows.uptoSmall) rfl own started (by kernel_rfl) Try.func3
    (OpenSpec.witness (enc := enc) (C := Try.checked) (s := Rows.OpenSpec.upto Rows.topAnewLagSpec) (k := Rows.uptoSmall) rfl false ⟨#[], #[.agg #[.slice none 0 0, .int .i64 0, .slice none 0 0, .bool false, .slice none 0 0, .slice none 0 0]], []⟩ 8 (by kernel_rfl) (by kernel_rfl) (by kernel_rfl)
      (x := ([.agg [.nil, .lit (.int .i64 0), .nil, .lit (.bool false), .nil, .nil]], [], [])) (by kernel_rfl) rfl (by kernel_rfl)) ?_
  intro W base args ds gs before hval hW _ hk _
  exact contract H enc W base args ds gs before hval hW hk

theorem over : Rows.topAnewLagUptoRow.holds Try.pinned (Rows.OpenSpec.upto Rows.topAnewLagSpec) :=
  OpenClaim.holds_of_cond 3 Try.f3 rfl rfl rfl rfl rfl rfl rfl ⟨rfl, rfl, rfl, rfl, rfl⟩ rfl rfl rfl rfl rfl (by kernel_rfl) Try.func3 (by kernel_rfl)
    (of_decide_eq_true (by kernel_rfl)) (by unfold Func.isWrapper; first | (rw [if_pos (by decide +kernel)]; kernel_rfl) | (rw [if_neg (by decide +kernel)]; exact ⟨rfl, rfl⟩))
    (fun os started H enc _ F => lifted os started H enc F)

theorem proved : Rows.TopAnewLagUptoSaid :=
  over
#print axioms proved
end Go.Proofs.Ytcephfmafmmilaa
