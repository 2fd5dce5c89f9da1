/-
  The closure of leasts; lists that are filled one by one.
-/
import Derived.Test.YtcephfmafmmilaaLq
namespace Go.Proofs.Ytcephfmafmmilaa
open Go.RowKit Go.Shelf

def partOf (f : Nat → Int) (T k : Nat) : List Int := (List.range T).map fun i => if i < k then f i else 0
theorem partOf_len (f : Nat → Int) (T k : Nat) : (partOf f T k).length = T := by simp [partOf]
theorem partOf_zero (f : Nat → Int) (T : Nat) : partOf f T 0 = List.replicate T 0 := by
  apply List.ext_getElem
  · simp [partOf]
  · intro i h1 h2; simp [partOf]
theorem partOf_set (f : Nat → Int) (T k : Nat) : (partOf f T k).set k (f k) = partOf f T (k + 1) := by
  apply List.ext_getElem
  · simp [partOf]
  · intro i h1 h2
    rw [List.getElem_set]
    simp only [partOf, List.getElem_map, List.getElem_range]
    split
    · rename_i h; subst h; simp
    · rename_i h
      by_cases hi : i < k
      · rw [if_pos hi, if_pos (by omega)]
      · rw [if_neg hi, if_neg (by omega)]
theorem partOf_all (f : Nat → Int) (T : Nat) : partOf f T T = (List.range T).map f := by
  unfold partOf
  apply List.map_congr_left
  intro t ht
  rw [if_pos (List.mem_range.1 ht)]

/-- What the closure of leasts reads. -/
theorem leasts1_any (D : Nat → Prop) (out c : List Int) (cv : Value) (g b5 b10 b8 T k : Nat) (w0 : World) (hT : out.length = T) (hk : k < T) (hT400 : T ≤ 400)
    (h5 : w0.cell? ⟨b5, 0, none⟩ = some (.slice (some ⟨g, 0, none⟩) T T)) (h10 : w0.cell? ⟨b10, 0, none⟩ = some (.int .i64 k)) (h8 : w0.cell? ⟨b8, 0, none⟩ = some cv)
    (hg : w0.heap[g]? = some (.cells (out.map (Value.int .i64)).toArray 2 (0, 0))) (hc : Ints D w0 cv c) (h1 : 1 ≤ c.length) (hb : ∀ i, 0 ≤ nAt c i ∧ nAt c i ≤ 100) (ho : ∀ i, 0 ≤ nAt out i ∧ nAt out i ≤ 100000) :
    Of 74 #[.pointer (some ⟨b5, 0, none⟩), .pointer (some ⟨b10, 0, none⟩), .pointer (some ⟨b8, 0, none⟩)] (fun p => nAt out (k - p) + least1 c p) k (fun W => Pure w0 W) := by
  intro p w hp hP
  show Calls Try.prog 74 #[.int .i64 p, .pointer (some ⟨b5, 0, none⟩), .pointer (some ⟨b10, 0, none⟩), .pointer (some ⟨b8, 0, none⟩)] w _
  have k5 := hP.cell h5 (fun f => f)
  have k10 := hP.cell h10 (fun f => f)
  have k8 := hP.cell h8 (fun f => f)
  have hl := fun W (hW : Pure w W) => least_any D cv c p W (hc.pure (hP.trans hW)) h1 hb (by omega)
  have hlb := least1_bd hb p
  obtain ⟨q, hq⟩ : ∃ q : Nat, k - p = q := ⟨_, rfl⟩
  have kq := arr_get (hP.heap hg (fun f => f)) q (by omega)
  have hoq := ho q
  obtain ⟨x, hx⟩ : ∃ x, nAt out q = x := ⟨_, rfl⟩
  obtain ⟨y, hy⟩ : ∃ y, least1 c p = y := ⟨_, rfl⟩
  rw [show out[q]?.getD 0 = x from hx] at kq
  rw [hx] at hoq
  simp only [hy] at hl
  rw [hy] at hlb
  simp only [hq, hx, hy]
  have e1 : (k : Int) - p = q := by omega
  have e2 : IntKind.i64.wrap (q : Int) = q := by rw [IntKind.wrap_i64]; omega
  have hqT : q < T := by omega
  obtain ⟨c1, c2, c3, rfl⟩ := hc.form
  have HL := Lib.hid hl; have HP := Lib.hid hP
  have g5 := fun g => grow_cell k5 g; have g10 := fun g => grow_cell k10 g; have g8 := fun g => grow_cell k8 g; have gq := fun g => grow_cell kq g
  clear hl hP h5 h10 h8 hg hc hb ho hx hy hq hT
  go_enter Try.func74, Try.ntmps74
  go_wp2_with fail
  refine mixed_start (by kernel_rfl) ?_
  refine mixed_take [0, 1, 2, 3, 4, 5, 6, 7] (by kernel_rfl) (Only.refl _ _).drew (fun d _ _ _ _ h => by cases d <;> exact h) 3 (by kernel_rfl) ?_
  simp only [picks, List.drop_succ_cons, List.drop_zero, List.take_succ_cons, List.take_zero, List.cons_append, List.nil_append]
  repeat (go_big_quiet_step (fail))
  refine wpQuiet_nil ?_
  refine mixed_force (i := 8) (by kernel_rfl) rfl ?_
  go_wp2_with fail
  refine (HL.out w.drew (Only.refl _ _).drew).mono ?_
  rintro e w1 ⟨rfl, P1⟩
  have P2 := Lib.hid ((Only.refl (fun _ => False) w).drew.trans P1)
  clear P1 g5 g10 g8 gq
  go_wp2_with fail
  refine ⟨P2.out, ?_⟩
  refine mixed_take [9, 10] (by kernel_rfl) P2.out (fun d _ _ _ _ h => by cases d <;> exact h) 0 (by kernel_rfl) ?_
  simp only [picks, List.drop_succ_cons, List.drop_zero, List.take_succ_cons, List.take_zero, List.cons_append, List.nil_append]
  repeat (go_big_quiet_step (fail))
  refine wpQuiet_nil ?_
  refine wpAnyG_done (by kernel_rfl) ?_
  go_wp2
  go_ret
  exact ⟨rfl, HP.out.trans P2.out⟩
end Go.Proofs.Ytcephfmafmmilaa
