/-
  For every argument whose reading is of bulk at most 1048576, TopAnewOdds returns true, and its argument reads behind the call as it read before. Conditions: the given statement's own.
-/
import Derived.Test.YthnjfekkngpbjaaRows
import Derived.WalkKit
import Derived.ProofKit
import Derived.OpenShut
import Derived.JoinedCond
import Derived.Carry
import Derived.Test.YthnjfekkngpbjaaJg
namespace Go.Proofs.Ythnjfekkngpbjaa
open Go.ChangeShapes Go.WideShapes Go.ChangeAt Go.RowKit
set_option linter.unusedVariables false

theorem own : ownKnob Try.prog.godebug = none := by kernel_rfl

theorem sh2 : HasSh Try.prog 2 (.num .i64) := .int Try.underlying2
theorem sh3 : HasSh Try.prog 3 (.num .i64) := .int Try.underlying3
theorem sh4 : HasSh Try.prog 4 .bool := .bool Try.underlying4
theorem sh23 : HasSh Try.prog 23 (.agg [.num .i64, .num .i64]) := .agg Try.underlying23 (.cons (by kernel_rfl) sh2 (by kernel_rfl) (.cons (by kernel_rfl) sh2 (by kernel_rfl) .nil)) (by kernel_rfl)
theorem sh76 : HasSh Try.prog 76 (.agg [.num .i64, .num .i64]) := .agg Try.underlying76 (.cons (by kernel_rfl) sh2 (by kernel_rfl) (.cons (by kernel_rfl) sh2 (by kernel_rfl) .nil)) (by kernel_rfl)
theorem sh24 : HasSh Try.prog 24 (.list (.agg [.num .i64, .num .i64])) := .list Try.underlying24 sh76 (by kernel_rfl) (by decide)
theorem sh26 : HasSh Try.prog 26 (.agg [.list (.agg [.num .i64, .num .i64]), .num .i64]) := .agg Try.underlying26 (.cons (by kernel_rfl) sh24 (by kernel_rfl) (.cons (by kernel_rfl) sh2 (by kernel_rfl) .nil)) (by kernel_rfl)
theorem sh83 : HasSh Try.prog 83 quoteSh := .agg Try.underlying83 (.cons (by kernel_rfl) sh3 (by kernel_rfl) (.cons (by kernel_rfl) sh2 (by kernel_rfl) (.cons (by kernel_rfl) sh2 (by kernel_rfl) (.cons (by kernel_rfl) sh4 (by kernel_rfl) .nil)))) (by kernel_rfl)
theorem sh27 : HasSh Try.prog 27 (.list quoteSh) := .list Try.underlying27 sh83 (by kernel_rfl) (by decide)
theorem sh29 : HasSh Try.prog 29 (.agg [.num .i64, .list quoteSh]) := .agg Try.underlying29 (.cons (by kernel_rfl) sh3 (by kernel_rfl) (.cons (by kernel_rfl) sh27 (by kernel_rfl) .nil)) (by kernel_rfl)
theorem sh30 : HasSh Try.prog 30 (.list (.num .i64)) := .list Try.underlying30 sh2 (by kernel_rfl) (by decide)
theorem shArg : HasSh Try.prog 32 argSh := .agg Try.underlying32 (.cons (by kernel_rfl) sh23 (by kernel_rfl) (.cons (by kernel_rfl) sh3 (by kernel_rfl) (.cons (by kernel_rfl) sh23 (by kernel_rfl) (.cons (by kernel_rfl) sh23 (by kernel_rfl) (.cons (by kernel_rfl) sh26 (by kernel_rfl) (.cons (by kernel_rfl) sh3 (by kernel_rfl) (.cons (by kernel_rfl) sh29 (by kernel_rfl) (.cons (by kernel_rfl) sh30 (by kernel_rfl) (.cons (by kernel_rfl) sh30 (by kernel_rfl) .nil))))))))) (by kernel_rfl)
theorem laidOut : laidOutB Try.prog = true := by kernel_rfl

set_option maxRecDepth 100000 in
theorem contract (H : Type) (enc : TypeId × Value → H) (W : World) (base : Nat) (args : Array Value) (ds gs : List (DataW H)) (before : List MemPlace)
    (hval : ∀ (j : Nat) t v, Try.f3.params[j]? = some t → args[j]? = some v → Value.okWide Try.prog W .any base t v)
    (hW : DataW.Whole enc Try.prog Try.f3.params.toList Rows.topAnewOddsSpec.vars false W args.toList ds gs before) (hk : Rows.uptoSmall H (ds ++ gs) = true) :
    Calls Try.prog 3 args W fun e W' => ∃ v, e = .returned v ∧ Rows.topAnewOddsSpec.post enc Try.prog Try.f3 false true false false W args v W' := by
  have hW' := hW
  obtain ⟨p, q, hA0, hV, rfl, hfz, hnd⟩ := hW
  have hA : DataW.TrodAll enc Try.prog W 0 (fun _ => true) true Try.f3.params.toList args.toList ds p := hA0
  rw [Try.params3] at hA hval
  obtain ⟨v0, vs0, d0, ds0, p0, q0, hargs, rfl, rfl, h0, r0⟩ := trodAll_cons hA
  obtain ⟨rfl, rfl, rfl⟩ := trodAll_nil r0
  obtain rfl : args = #[v0] := by cases args; simp_all
  obtain ⟨rfl, rfl⟩ := trodVars_none hV
  clear hA0
  simp only [List.append_nil] at hW' hk
  have hok := hval 0 32 v0 rfl rfl
  unfold Value.okWide at hok
  rw [Try.underlying32] at hok
  obtain ⟨cs, rfl, hcs, _⟩ := hok
  obtain ⟨fuel, hf⟩ := id h0
  obtain ⟨ns, ss, hE, hbulk⟩ := good_of_trod fuel 32 argSh cs.toList (d0, p0) shArg (by simpa [Value.cells] using hf)
  have hlen := hE.len
  have hR : Room ns ss := by
    have h1 : Rows.uptoBulkAll [d0] ≤ 1048576 := by simpa [Rows.uptoSmall] using hk
    simp only [Rows.uptoBulkAll] at h1
    have hb : ns.length + ss.length ≤ Rows.uptoBulk d0 := hbulk
    constructor <;> omega
  obtain ⟨cs⟩ := cs
  simp only at hE hlen hf
  match cs, hlen with
  | [c0, c1, c2, c3, c4, c5, c6, c7, c8, c9, c10, c11, c12, c13], _ =>
  obtain ⟨_, _, _, _, _, _, e0, r0⟩ := Enc.split (l1 := [c0, c1]) (l2 := [c2, c3, c4, c5, c6, c7, c8, c9, c10, c11, c12, c13]) hE rfl
  obtain ⟨_, _, _, _, _, _, e0_0, r0_0⟩ := Enc.split (l1 := [c0]) (l2 := [c1]) e0 rfl
  obtain ⟨_, _, _, _, _, _, e0_1, r0_1⟩ := Enc.split (l1 := [c1]) (l2 := []) r0_0 rfl
  obtain ⟨_, _, _, _, _, _, e1, r1⟩ := Enc.split (l1 := [c2]) (l2 := [c3, c4, c5, c6, c7, c8, c9, c10, c11, c12, c13]) r0 rfl
  obtain ⟨_, _, _, _, _, _, e2, r2⟩ := Enc.split (l1 := [c3, c4]) (l2 := [c5, c6, c7, c8, c9, c10, c11, c12, c13]) r1 rfl
  obtain ⟨_, _, _, _, _, _, e2_0, r2_0⟩ := Enc.split (l1 := [c3]) (l2 := [c4]) e2 rfl
  obtain ⟨_, _, _, _, _, _, e2_1, r2_1⟩ := Enc.split (l1 := [c4]) (l2 := []) r2_0 rfl
  obtain ⟨_, _, _, _, _, _, e3, r3⟩ := Enc.split (l1 := [c5, c6]) (l2 := [c7, c8, c9, c10, c11, c12, c13]) r2 rfl
  obtain ⟨_, _, _, _, _, _, e3_0, r3_0⟩ := Enc.split (l1 := [c5]) (l2 := [c6]) e3 rfl
  obtain ⟨_, _, _, _, _, _, e3_1, r3_1⟩ := Enc.split (l1 := [c6]) (l2 := []) r3_0 rfl
  obtain ⟨_, _, _, _, _, _, e4, r4⟩ := Enc.split (l1 := [c7, c8]) (l2 := [c9, c10, c11, c12, c13]) r3 rfl
  obtain ⟨_, _, _, _, _, _, e4_0, r4_0⟩ := Enc.split (l1 := [c7]) (l2 := [c8]) e4 rfl
  obtain ⟨_, _, _, _, _, _, e4_1, r4_1⟩ := Enc.split (l1 := [c8]) (l2 := []) r4_0 rfl
  obtain ⟨_, _, _, _, _, _, e5, r5⟩ := Enc.split (l1 := [c9]) (l2 := [c10, c11, c12, c13]) r4 rfl
  obtain ⟨_, _, _, _, _, _, e6, r6⟩ := Enc.split (l1 := [c10, c11]) (l2 := [c12, c13]) r5 rfl
  obtain ⟨_, _, _, _, _, _, e6_0, r6_0⟩ := Enc.split (l1 := [c10]) (l2 := [c11]) e6 rfl
  obtain ⟨_, _, _, _, _, _, e6_1, r6_1⟩ := Enc.split (l1 := [c11]) (l2 := []) r6_0 rfl
  obtain ⟨_, _, _, _, _, _, e7, r7⟩ := Enc.split (l1 := [c12]) (l2 := [c13]) r6 rfl
  obtain ⟨_, _, _, _, _, _, e8, r8⟩ := Enc.split (l1 := [c13]) (l2 := []) r7 rfl
  obtain ⟨ra1, rfl, _, _⟩ := e0_0.open_num
  obtain ⟨ra2, rfl, _, _⟩ := e0_1.open_num
  obtain ⟨step, rfl, _, _⟩ := e1.open_num
  obtain ⟨lo1, rfl, _, _⟩ := e2_0.open_num
  obtain ⟨lo2, rfl, _, _⟩ := e2_1.open_num
  obtain ⟨hi1, rfl, _, _⟩ := e3_0.open_num
  obtain ⟨hi2, rfl, _, _⟩ := e3_1.open_num
  obtain ⟨pl, hpl⟩ := pairs_of_enc e4_0
  obtain ⟨cut, rfl, _, _⟩ := e4_1.open_num
  obtain ⟨runner, rfl, _, _⟩ := e5.open_num
  obtain ⟨runners, rfl, _, _⟩ := e6_0.open_num
  obtain ⟨qs, hqs⟩ := quotes_of_enc e6_1
  obtain ⟨st, hst⟩ := ints_of_enc e7
  obtain ⟨ch, hch⟩ := ints_of_enc e8
  refine (TopAnewOdds_any (fun k => k < W.heap.size) W (ra := (ra1, ra2)) (lo := (lo1, lo2)) (hi := (hi1, hi2)) (step := step) (runner := runner) (p := ⟨pl, cut⟩) (m := ⟨runners, qs⟩) (st := st) (ch := ch) (pv := c7) (qv := c11) (sv := c12) (chv := c13) ns ss (fun k hk => hk) hpl hqs hst hch hE hR).mono fun e W' ⟨he, hB⟩ => ?_
  subst he
  have hlt : ∀ x ∈ p0, x.block < W.heap.size := fun x hx => by simpa using hW'.lt x (by simpa using hx)
  refine ⟨_, rfl, _, _, _, [], p0, [], hW', ?_, ?_, ?_, hB.frame _, fun h => by cases h⟩
  · exact trodAll_cons_mk (shut_bool Try.underlying4 _) trodAll_mk0
  · rw [Try.params3]
    exact trodAll_mk1 (Below.trod laidOut (by kernel_rfl) (of_decide_eq_true (by kernel_rfl)) h0 hB hlt)
  · rfl

set_option maxRecDepth 100000 in
theorem lifted (os : Os) (started : os.Started) (H : Type) (enc : TypeId × Value → H) (F : Stop.Interp) :
    ReturnsInHanded {} Try.checked os 3 .any ((Rows.OpenSpec.upto Rows.topAnewOddsSpec).pre6 enc Try.prog Try.f3 Rows.topAnewOddsUptoRow.domain false) (((Rows.OpenSpec.upto Rows.topAnewOddsSpec).at F).post enc Try.prog Try.f3 false true false false) := by
  refine returnsInHanded_of_cond (C := Try.checked) (s := Rows.OpenSpec.upto Rows.topAnewOddsSpec) (k := Rows.uptoSmall) rfl own started (by kernel_rfl) Try.func3
    (OpenSpec.witness (enc := enc) (C := Try.checked) (s := Rows.OpenSpec.upto Rows.topAnewOddsSpec) (k := Rows.uptoSmall) rfl false ⟨#[], #[.agg #[.int .i64 0, .int .i64 0, .int .i64 0, .int .i64 0, .int .i64 0, .int .i64 0, .int .i64 0, .slice none 0 0, .int .i64 0, .int .i64 0, .int .i64 0, .slice none 0 0, .slice none 0 0, .slice none 0 0]], []⟩ 8 (by kernel_rfl) (by kernel_rfl) (by kernel_rfl)
      (x := ([.agg [.agg [.lit (.int .i64 0), .lit (.int .i64 0)], .lit (.int .i64 0), .agg [.lit (.int .i64 0), .lit (.int .i64 0)], .agg [.lit (.int .i64 0), .lit (.int .i64 0)], .agg [.nil, .lit (.int .i64 0)], .lit (.int .i64 0), .agg [.lit (.int .i64 0), .nil], .nil, .nil]], [], [])) (by kernel_rfl) rfl (by kernel_rfl)) ?_
  intro W base args ds gs before hval hW _ hk _
  exact contract H enc W base args ds gs before hval hW hk

theorem over : Rows.topAnewOddsUptoRow.holds Try.pinned (Rows.OpenSpec.upto Rows.topAnewOddsSpec) :=
  OpenClaim.holds_of_cond 3 Try.f3 rfl rfl rfl rfl rfl rfl rfl ⟨rfl, rfl, rfl, rfl, rfl⟩ rfl rfl rfl rfl rfl (by kernel_rfl) Try.func3 (by kernel_rfl)
    (of_decide_eq_true (by kernel_rfl)) (by unfold Func.isWrapper; first | (rw [if_pos (by decide +kernel)]; kernel_rfl) | (rw [if_neg (by decide +kernel)]; exact ⟨rfl, rfl⟩))
    (fun os started H enc _ F => lifted os started H enc F)

theorem proved : Rows.TopAnewOddsUptoSaid :=
  over
#print axioms proved
end Go.Proofs.Ythnjfekkngpbjaa
