/-
  newBoard.
-/
import Derived.Test.YtcephfmafmmilaaLw
namespace Go.Proofs.Ytcephfmafmmilaa
open Go.RowKit Go.Shelf

/-- A board that was made between two counts of blocks. -/
def Made (c : List Int) (sv : Value) (base hi b : Nat) (W : World) : Prop :=
  ∃ mb tp f0 f1 f2 f3 f4 f5 f6, base ≤ b ∧ base ≤ mb ∧ b < hi ∧ mb < hi ∧ tp ≤ 1000 ∧ Board c sv b mb tp f0 f1 f2 f3 f4 f5 f6 W
theorem Made.keep {c : List Int} {sv : Value} {base hi b : Nat} {S : Nat → Prop} {W W' : World} (h : Made c sv base hi b W) (ho : Only S W W') (hS : ∀ k, base ≤ k → k < hi → ¬ S k) : Made c sv base hi b W' := by
  obtain ⟨mb, tp, f0, f1, f2, f3, f4, f5, f6, h1, h2, h3, h4, h5, hB⟩ := h
  exact ⟨mb, tp, f0, f1, f2, f3, f4, f5, f6, h1, h2, h3, h4, h5, hB.keep ho (hS b h1 h3) (hS mb h2 h4)⟩
theorem Made.pure {c : List Int} {sv : Value} {base hi b : Nat} {W W' : World} (h : Made c sv base hi b W) (ho : Pure W W') : Made c sv base hi b W' := h.keep ho (fun _ _ _ f => f)
theorem Made.lt {c : List Int} {sv : Value} {base hi b : Nat} {W : World} (h : Made c sv base hi b W) : base ≤ b ∧ b < hi ∧ b < W.heap.size := by
  obtain ⟨mb, tp, f0, f1, f2, f3, f4, f5, f6, h1, h2, h3, h4, h5, hB⟩ := h
  exact ⟨h1, h3, lt_of_block hB.row⟩
/-- A curve that is right. -/
def GoodC (c : List Int) : Prop := 1 ≤ c.length ∧ c.length ≤ 6 ∧ ∀ i, 0 ≤ nAt c i ∧ nAt c i ≤ 100
/-- What is read through a board's slice lies below its base. -/
theorem most_made {c : List Int} {sv : Value} {base hi b : Nat} (t : Nat) {W : World} (hg : GoodC c) (hv : Ints (fun k => k < base) W sv c) (ht : t ≤ 400) (h : Made c sv base hi b W) (hb : base ≤ W.heap.size) :
    Calls Try.prog 47 #[.pointer (some ⟨b, 0, none⟩), .int .i64 t] W fun e w' => e = .returned (.int .i64 (mostOf c t)) ∧ Made c sv base hi b w' ∧ Only (fun k => base ≤ k ∧ k < hi) W w' := by
  obtain ⟨mb, tp, f0, f1, f2, f3, f4, f5, f6, h1, h2, h3, h4, h5, hB⟩ := h
  refine (most_any _ sv c b mb tp f0 f1 f2 f3 f4 f5 f6 t W hv (fun k hk => ⟨by omega, by omega, by omega⟩) hg.1 hg.2.1 hg.2.2 ht h5 hB).mono ?_
  rintro e w' ⟨he, ⟨tp', h6, hB'⟩, hO⟩
  exact ⟨he, ⟨mb, tp', f0, f1, f2, f3, f4, f5, f6, h1, h2, h3, h4, h6, hB'⟩, hO.mono (fun k _ e => by rcases e with e | e <;> subst e <;> exact ⟨by assumption, by assumption⟩)⟩

theorem few_cells (c : List Int) : (partOf (mostOf c) 7 7).map (Value.int .i64) = [.int .i64 (mostOf c 0), .int .i64 (mostOf c 1), .int .i64 (mostOf c 2), .int .i64 (mostOf c 3), .int .i64 (mostOf c 4), .int .i64 (mostOf c 5), .int .i64 (mostOf c 6)] := by
  rw [partOf_all]; rfl

set_option maxHeartbeats 4000000 in
set_option maxRecDepth 100000 in
theorem newBoard_any (D : Nat → Prop) (sv : Value) (c : List Int) (w : World) (hv : Ints D w sv c) (hg : GoodC c) :
    Calls Try.prog 46 #[sv] w fun e w' => ∃ b, e = .returned (.pointer (some ⟨b, 0, none⟩)) ∧ Made c sv w.heap.size w'.heap.size b w' ∧ Pure w w' := by
  replace hv : Ints (fun k => k < w.heap.size) w sv c := hv.fresh.any (fun k hk => hk.2)
  have hm0 : MapF keyV (w.alloc (.map #[] 0)) w.heap.size (fun _ => none) := MapF.made keyV w
  obtain ⟨o, hup, hm1⟩ := hm0.update (P := Try.prog) key_law (T := 96) Try.underlying96 0 (.int .i64 0)
  obtain ⟨w1, hw1⟩ : ∃ x, x = (w.alloc (.map #[] 0)).putObj w.heap.size o := ⟨_, rfl⟩
  have hO1 : Pure w w1 := by
    rw [hw1]
    exact ((Only.refl (fun _ => False) w).alloc _).trans' (putObj_only _ _ _) (fun i hi e => by omega)
  rw [← hw1] at hup hm1
  have hmb := hm1.lt
  obtain ⟨mb, hmbe⟩ : ∃ x, x = w.heap.size := ⟨_, rfl⟩
  rw [← hmbe] at hup hm1 hmb
  have hk := hm1.congr (fun x => knownF_start c x)
  unfold keyV at hup
  obtain ⟨a, n, cap, rfl⟩ := hv.form
  have HK := Lib.hid hk; have HO1 := Lib.hid hO1; have HV := Lib.hid hv; have HMB := Lib.hid hmbe
  rw [hmbe] at hup
  clear hm0 hm1 hw1 hk hO1 hv hmbe
  have hmk : (Instr.makeMap 96 none).run Try.prog w = .ok (.map (some w.heap.size)) (w.alloc (.map #[] 0)) := by first | rfl | kernel_rfl | simp [Instr.makeMap, newObj]
  go_enter Try.func46, Try.ntmps46
  go_wp2_with fail
  obtain ⟨b, hb⟩ : ∃ x, x = w1.heap.size := ⟨_, rfl⟩
  rw [← HMB.out, ← hb]
  have hbw : w.heap.size ≤ b := by rw [hb]; exact HO1.out.size
  have hmw : w.heap.size ≤ mb := by have := HMB.out; omega
  have hmbb : mb < b := by omega
  obtain ⟨w2, hw2⟩ : ∃ x, x = ((w1.alloc (Obj.cells #[Value.slice a n cap, .map (some mb), .int .i64 0, .int .i64 0, .int .i64 0, .int .i64 0, .int .i64 0, .int .i64 0, .int .i64 0, .int .i64 0] 100)).alloc (Obj.cells #[.int .i64 0, .int .i64 0, .int .i64 0, .int .i64 0, .int .i64 0, .int .i64 0, .int .i64 0] 98)) := ⟨_, rfl⟩
  have hP2 : Pure w1 w2 := by rw [hw2]; exact ((Only.refl _ w1).alloc _).alloc _
  have hrow : w2.heap[b]? = some (.cells #[Value.slice a n cap, .map (some mb), .int .i64 0, .int .i64 0, .int .i64 0, .int .i64 0, .int .i64 0, .int .i64 0, .int .i64 0, .int .i64 0] 100) := by
    rw [hw2, hb]; have h := World.alloc_heap_new w1 (Obj.cells #[Value.slice a n cap, .map (some mb), .int .i64 0, .int .i64 0, .int .i64 0, .int .i64 0, .int .i64 0, .int .i64 0, .int .i64 0, .int .i64 0] 100)
    exact (Below.heap_alloc _ _ _ (lt_of_block h)).trans h
  have hfew : w2.heap[b + 1]? = some (.cells ((partOf (mostOf c) 7 0).map (Value.int .i64)).toArray 98) := by
    rw [hw2, hb]; have h := World.alloc_heap_new (w1.alloc (Obj.cells #[Value.slice a n cap, .map (some mb), .int .i64 0, .int .i64 0, .int .i64 0, .int .i64 0, .int .i64 0, .int .i64 0, .int .i64 0, .int .i64 0] 100)) (Obj.cells #[.int .i64 0, .int .i64 0, .int .i64 0, .int .i64 0, .int .i64 0, .int .i64 0, .int .i64 0] 98)
    rw [World.size_alloc] at h; rw [h, partOf_zero]; rfl
  have hB0 : Board c (.slice a n cap) b mb 0 0 0 0 0 0 0 0 w2 := ⟨hrow, HK.out.keep hP2 (fun f => f), .inl rfl⟩
  rw [← hw2]
  have HB0 := Lib.hid hB0; have HF0 := Lib.hid hfew; have HP0 := Lib.hid (HO1.out.trans hP2)
  obtain ⟨Bf, hBf⟩ : ∃ x, x = b + 1 := ⟨_, rfl⟩
  rw [← hBf] at HF0 ⊢
  have hbf : b < Bf := by omega
  clear hP2 hrow hfew hB0 hw2 hup hmk hb hBf
  go_loopw [13] (fun i wr => ∃ (k tp : Nat), k ≤ 7 ∧ i = .int .i64 k ∧ tp ≤ 1000 ∧ Hid (Board c (.slice a n cap) b mb tp 0 0 0 0 0 0 0 wr) ∧ Hid (wr.heap[Bf]? = some (.cells ((partOf (mostOf c) 7 k).map (Value.int .i64)).toArray 98)) ∧ Hid (Pure w wr)) (fun i _ => 7 - (intOf i).toNat)
  case atStart => exact ⟨0, 0, by omega, rfl, by omega, HB0, HF0, HP0⟩
  case round =>
    obtain ⟨k, tp, hk, rfl, htp, hB, hF, hP⟩ := hrel
    by_cases hlt : k < 7
    · have hm := most_any (fun k => k < w.heap.size) (.slice a n cap) c b mb tp 0 0 0 0 0 0 0 k wr (HV.out.pure hP.out) (fun j hj => ⟨by have := hP.out.size; omega, by omega, by omega⟩) hg.1 hg.2.1 hg.2.2 (by omega) htp hB.out
      have hst := partOf_set (mostOf c) 7 k
      obtain ⟨y, hy⟩ : ∃ y, mostOf c k = y := ⟨_, rfl⟩
      rw [hy] at hst hm
      have HST := Lib.hid hst
      clear hst hy
      go_wp2_with fail
      refine hm.mono ?_
      rintro e w3 ⟨rfl, ⟨tp', htp', hB'⟩, hO'⟩
      have h3 := hO'.heap hF.out (fun e => by
        rcases e with e | e
        · omega
        · omega)
      have fr3 : ∀ j, w3.frozen? ⟨Bf, j, none⟩ = false := fun j => arr_frozen h3 j
      have kk := arr_get h3 k (by rw [partOf_len]; exact hlt)
      have hs := arr_store h3 k y
      rw [HST.out] at hs
      have HS := Lib.hid hs
      have ho3 := (Only.refl (fun x => x = Bf) w3).setCell (p := ⟨Bf, k, none⟩) (.inl rfl) (.int .i64 y)
      have HB3 := Lib.hid (hB'.keep ho3 (fun e => by omega) (fun e => by omega))
      have HP3 := Lib.hid ((hP.out.trans' hO' (fun i hi e => by rcases e with e | e <;> omega)).setCell (p := ⟨Bf, k, none⟩) (.inr (show w.heap.size ≤ Bf by omega)) (.int .i64 y))
      clear hm hB' hO' h3 hs ho3
      go_wp2
      go_roundw
      case rel => exact ⟨k + 1, tp', by omega, by go_num, htp', HB3, HS, HP3⟩
      case measure => simp [intOf]; omega
    · obtain rfl : k = 7 := by omega
      have hf := hF.out
      rw [few_cells] at hf
      have hr := hB.out.row
      obtain ⟨m0, e0⟩ : ∃ y, mostOf c 0 = y := ⟨_, rfl⟩
      obtain ⟨m1, e1⟩ : ∃ y, mostOf c 1 = y := ⟨_, rfl⟩
      obtain ⟨m2, e2⟩ : ∃ y, mostOf c 2 = y := ⟨_, rfl⟩
      obtain ⟨m3, e3⟩ : ∃ y, mostOf c 3 = y := ⟨_, rfl⟩
      obtain ⟨m4, e4⟩ : ∃ y, mostOf c 4 = y := ⟨_, rfl⟩
      obtain ⟨m5, e5⟩ : ∃ y, mostOf c 5 = y := ⟨_, rfl⟩
      obtain ⟨m6, e6⟩ : ∃ y, mostOf c 6 = y := ⟨_, rfl⟩
      have hsev : [m0, m1, m2, m3, m4, m5, m6] = (List.range 7).map (mostOf c) := by rw [← e0, ← e1, ← e2, ← e3, ← e4, ← e5, ← e6]; rfl
      rw [e0, e1, e2, e3, e4, e5, e6] at hf
      have q0 : wr.cell? ⟨Bf, 0, none⟩ = some (.int .i64 m0) := cell_of_row _ _ 0 _ _ _ hf
      have q1 : wr.cell? ⟨Bf, 1, none⟩ = some (.int .i64 m1) := cell_of_row _ _ 1 _ _ _ hf
      have q2 : wr.cell? ⟨Bf, 2, none⟩ = some (.int .i64 m2) := cell_of_row _ _ 2 _ _ _ hf
      have q3 : wr.cell? ⟨Bf, 3, none⟩ = some (.int .i64 m3) := cell_of_row _ _ 3 _ _ _ hf
      have q4 : wr.cell? ⟨Bf, 4, none⟩ = some (.int .i64 m4) := cell_of_row _ _ 4 _ _ _ hf
      have q5 : wr.cell? ⟨Bf, 5, none⟩ = some (.int .i64 m5) := cell_of_row _ _ 5 _ _ _ hf
      have q6 : wr.cell? ⟨Bf, 6, none⟩ = some (.int .i64 m6) := cell_of_row _ _ 6 _ _ _ hf
      have r2 : wr.cell? ⟨b, 2, none⟩ = some (.int .i64 0) := cell_of_row _ _ 2 _ _ _ hr
      have r3 : wr.cell? ⟨b, 3, none⟩ = some (.int .i64 0) := cell_of_row _ _ 3 _ _ _ hr
      have r4 : wr.cell? ⟨b, 4, none⟩ = some (.int .i64 0) := cell_of_row _ _ 4 _ _ _ hr
      have r5 : wr.cell? ⟨b, 5, none⟩ = some (.int .i64 0) := cell_of_row _ _ 5 _ _ _ hr
      have r6 : wr.cell? ⟨b, 6, none⟩ = some (.int .i64 0) := cell_of_row _ _ 6 _ _ _ hr
      have r7 : wr.cell? ⟨b, 7, none⟩ = some (.int .i64 0) := cell_of_row _ _ 7 _ _ _ hr
      have r8 : wr.cell? ⟨b, 8, none⟩ = some (.int .i64 0) := cell_of_row _ _ 8 _ _ _ hr
      have fr : ∀ j, wr.frozen? ⟨b, j, none⟩ = false := fun j => arr_frozen hr j
      have HSEV := Lib.hid hsev; have HRR := Lib.hid hr
      clear hf hr hsev e0 e1 e2 e3 e4 e5 e6 hF
      have s0 := heap_setCell_same wr _ 2 _ _ (.int .i64 m0) HRR.out
      have s1 := heap_setCell_same _ _ 3 _ _ (.int .i64 m1) s0
      have s2 := heap_setCell_same _ _ 4 _ _ (.int .i64 m2) s1
      have s3 := heap_setCell_same _ _ 5 _ _ (.int .i64 m3) s2
      have s4 := heap_setCell_same _ _ 6 _ _ (.int .i64 m4) s3
      have s5 := heap_setCell_same _ _ 7 _ _ (.int .i64 m5) s4
      have s6 := heap_setCell_same _ _ 8 _ _ (.int .i64 m6) s5
      have ho := (((((((Only.refl (fun k => k = b) wr).setCell (p := ⟨b, 2, none⟩) (.inl rfl) (.int .i64 m0)).setCell (p := ⟨b, 3, none⟩) (.inl rfl) (.int .i64 m1)).setCell (p := ⟨b, 4, none⟩) (.inl rfl) (.int .i64 m2)).setCell (p := ⟨b, 5, none⟩) (.inl rfl) (.int .i64 m3)).setCell (p := ⟨b, 6, none⟩) (.inl rfl) (.int .i64 m4)).setCell (p := ⟨b, 7, none⟩) (.inl rfl) (.int .i64 m5)).setCell (p := ⟨b, 8, none⟩) (.inl rfl) (.int .i64 m6)
      have HZ := Lib.hid (⟨b, rfl, ⟨mb, tp, m0, m1, m2, m3, m4, m5, m6, hbw, hmw, Nat.lt_of_lt_of_le (lt_of_block hB.out.row) ho.size, Nat.lt_of_lt_of_le hB.out.map.lt ho.size, htp, s6, hB.out.map.keep ho (fun e => by omega), .inr HSEV.out⟩, hP.out.trans' ho (fun i hi e => by omega)⟩ : ∃ b', (.returned (.pointer (some ⟨b, 0, none⟩)) : Ending) = .returned (.pointer (some ⟨b', 0, none⟩)) ∧ Made c (.slice a n cap) w.heap.size (World.heap _).size b' _ ∧ Pure w _)
      clear s0 s1 s2 s3 s4 s5 s6 ho
      go_wp2_with fail
      go_ret
      exact HZ.out
end Go.Proofs.Ytcephfmafmmilaa
