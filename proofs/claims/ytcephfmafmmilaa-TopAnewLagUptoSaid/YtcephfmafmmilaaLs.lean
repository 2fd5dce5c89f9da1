/-
  leasts.
-/
import Derived.Test.YtcephfmafmmilaaLr
namespace Go.Proofs.Ytcephfmafmmilaa
open Go.RowKit Go.Shelf

theorem smallTo_le (f : Nat → Int) : ∀ k, smallTo f k ≤ f 0
  | 0 => Int.le_refl _
  | k + 1 => by have := smallTo_le f k; unfold smallTo; omega
theorem smallTo_nonneg {f : Nat → Int} {n : Nat} (h : ∀ k, k ≤ n → 0 ≤ f k) : ∀ k, k ≤ n → 0 ≤ smallTo f k
  | 0, hk => h 0 hk
  | k + 1, hk => by have a := smallTo_nonneg h k (by omega); have b := h (k + 1) hk; unfold smallTo; omega
theorem least1_zero (c : List Int) : least1 c 0 = 0 := by simp [least1]
def nextF (out c : List Int) (k : Nat) : Int := smallTo (fun p => nAt out (k - p) + least1 c p) k
def lsTo (ch : List (List Int)) (turns j : Nat) : List Int := ((ch.drop 1).take j).foldl (fun out c => nextOf out c turns) ((List.range (turns + 1)).map (least1 (lAt ch 0)))
theorem lsTo_succ (ch : List (List Int)) (turns j : Nat) (h : j + 1 < ch.length) : lsTo ch turns (j + 1) = (List.range (turns + 1)).map (nextF (lsTo ch turns j) (lAt ch (j + 1))) := by
  unfold lsTo
  rw [List.take_add_one, List.getElem?_drop, Nat.add_comm 1 j, List.getElem?_eq_getElem h]
  simp only [Option.toList_some, List.foldl_append, List.foldl_cons, List.foldl_nil, nextOf]
  have : lAt ch (j + 1) = ch[j + 1] := by simp [lAt, h]
  rw [this]
  rfl
theorem lsTo_all (ch : List (List Int)) (turns M : Nat) (h : ch.length = M + 1) : lsTo ch turns M = leasts ch turns := by
  unfold lsTo leasts
  rw [List.take_of_length_le (by simp; omega)]
  rfl
theorem lsTo_len (ch : List (List Int)) (turns j : Nat) : (lsTo ch turns j).length = turns + 1 := by
  unfold lsTo
  generalize hl : (ch.drop 1).take j = l
  clear hl
  have : ∀ (l : List (List Int)) (o : List Int), o.length = turns + 1 → (l.foldl (fun out c => nextOf out c turns) o).length = turns + 1 := by
    intro l
    induction l with
    | nil => intro o h; exact h
    | cons c r ih => intro o h; exact ih _ (by simp [nextOf])
  exact this l _ (by simp)
theorem range_nAt (f : Nat → Int) (T i : Nat) : nAt ((List.range T).map f) i = if i < T then f i else 0 := by
  unfold nAt
  by_cases h : i < T
  · simp [h]
  · simp [h]
theorem lsTo_bd {ch : List (List Int)} {turns : Nat} (ht : turns ≤ 399) (h1 : 1 ≤ ch.length) (hch : ∀ i, i < ch.length → ∀ j, 0 ≤ nAt (lAt ch i) j ∧ nAt (lAt ch i) j ≤ 100) : ∀ j, j < ch.length → ∀ i, 0 ≤ nAt (lsTo ch turns j) i ∧ nAt (lsTo ch turns j) i ≤ 100000
  | 0, _, i => by
    show 0 ≤ nAt ((List.range (turns + 1)).map (least1 (lAt ch 0))) i ∧ _
    have e : lsTo ch turns 0 = (List.range (turns + 1)).map (least1 (lAt ch 0)) := rfl
    rw [e, range_nAt]
    split
    · have := least1_bd (hch 0 (by omega)) i; omega
    · omega
  | j + 1, hj, i => by
    have ih := lsTo_bd ht h1 hch j (by omega)
    rw [lsTo_succ ch turns j hj, range_nAt]
    split
    · refine ⟨smallTo_nonneg (n := i) (fun k _ => ?_) i (Nat.le_refl _), Int.le_trans (smallTo_le _ i) ?_⟩
      · have := ih (i - k); have := least1_bd (hch (j + 1) hj) k; omega
      · have := ih (i - 0); rw [least1_zero]; omega
    · omega
theorem tail_lists (b off m M cap : Nat) (hk : m = M + 1) (hc : m ≤ cap) : ∃ ad : Addr, (1 < m → ad = ⟨b, off + 1, none⟩) ∧
    ∀ w : World, (Instr.slice 23 (.slice (some ⟨b, off, none⟩) m cap) (some (.int .i64 1)) none none).run Try.prog w = .ok (.slice (some ad) M (cap - 1)) w := by
  have hu : Try.prog.underlying 23 = some (.slice (Try.prog.elem 23)) := by kernel_rfl
  subst hk
  by_cases h1 : cap = 1
  · refine ⟨⟨b, off, none⟩, fun h => by omega, fun w => ?_⟩
    rw [run_slice_l w 23 (some ⟨b, off, none⟩) (M + 1) cap hu .i64 1 (by omega) (by omega)]
    simp [sliced, h1, go_sem]
  · refine ⟨⟨b, off + 1, none⟩, fun _ => rfl, fun w => ?_⟩
    rw [run_slice_l w 23 (some ⟨b, off, none⟩) (M + 1) cap hu .i64 1 (by omega) (by omega)]
    simp [sliced, h1, go_sem, Addr.add]

set_option maxHeartbeats 4000000 in
set_option maxRecDepth 100000 in
theorem leasts_any (D : Nat → Prop) (v : Value) (ch : List (List Int)) (turns : Nat) (w : World) (hv : Lists D w v ch) (h1 : 1 ≤ ch.length) (hch1 : ∀ i, i < ch.length → 1 ≤ (lAt ch i).length) (hch : ∀ i, i < ch.length → ∀ j, 0 ≤ nAt (lAt ch i) j ∧ nAt (lAt ch i) j ≤ 100) (ht : turns ≤ 399) :
    Calls Try.prog 49 #[v, .int .i64 turns] w fun e w' => ∃ g, w.heap.size ≤ g ∧ e = .returned (.slice (some ⟨g, 0, none⟩) (turns + 1) (turns + 1)) ∧ w'.heap[g]? = some (.cells ((leasts ch turns).map (Value.int .i64)).toArray 2 (0, 0)) ∧ Pure w w' := by
  obtain ⟨a, m, cap, rfl, hn, hlc, hm, hc⟩ := hv
  obtain ⟨M, hM⟩ : ∃ M, m = M + 1 := ⟨m - 1, by omega⟩
  have hsucc := fun j (h : j < M) => lsTo_succ ch turns j (by omega)
  have hall := lsTo_all ch turns M (by omega)
  have hbd := fun j (h : j ≤ M) => lsTo_bd ht h1 hch j (by omega)
  have hlen := lsTo_len ch turns
  obtain ⟨b, off, u0, rfl, _, c0, hu0⟩ := hc 0 (by omega)
  rw [Nat.add_zero] at c0
  obtain ⟨ad, had, hsl⟩ := tail_lists b off m M cap hM hlc
  obtain ⟨i0, hi, hz0, hz1, hz2⟩ := info_parts infoI64
  have hl0 := fun (k : Nat) (hk : k ≤ 400) W (hW : Pure w W) => least_any D u0 (lAt ch 0) k W (hu0.pure hW) (hch1 0 (by omega)) (hch 0 (by omega)) (by omega)
  have hls0 : lsTo ch turns 0 = (List.range (turns + 1)).map (least1 (lAt ch 0)) := rfl
  obtain ⟨T, hT⟩ : ∃ T, turns + 1 = T := ⟨_, rfl⟩
  rw [hT] at hls0 ⊢
  simp only [hT] at hsucc hlen
  obtain ⟨u1, u2, u3, rfl⟩ := hu0.form
  have eN : (turns : Int) + 1 = T := by omega
  have eW : IntKind.i64.wrap (T : Int) = T := by rw [IntKind.wrap_i64]; omega
  have hT400 : T ≤ 400 := by omega
  have hT1 : 1 ≤ T := by omega
  have hm1 : 0 < m := by omega
  have hM63 : M ≤ 9223372036854775806 := by omega
  have hch1' := fun j (h : j < M) => hch1 (j + 1) (by omega)
  have hch' := fun j (h : j < M) => hch (j + 1) (by omega)
  have HC := Lib.hid hc; have HSU := Lib.hid hsucc; have HALL := Lib.hid hall; have HBD := Lib.hid hbd; have HLEN := Lib.hid hlen; have HAD := Lib.hid had; have HL0 := Lib.hid hl0; have HLS0 := Lib.hid hls0; have HM := Lib.hid hM; have HCH := Lib.hid hch'; have HCH1 := Lib.hid hch1'
  clear hc hsucc hall hbd hlen had hl0 hls0 hM hch hch1 hch' hch1' hu0 hn h1 hT hlc ht
  go_enter Try.func49, Try.ntmps49
  go_wp2_with (at_make; refine wpList_make_full _ rfl _ _ 22 rfl w.heap.size 2 i0 (.int .i64 0) 1 Try.underlying22 hi hz0 hz1 .i64 .i64 _ _ T rfl rfl rfl rfl (by rw [hz2]; omega) (by unfold maxLen; omega) (Nat.le_refl _) ?_; intro w1 hown hg)
  first | rw [made_zeros] at hown | rw [made_zeros1] at hown
  have hh := (owns_full hown).1
  rw [← partOf_zero (least1 (lAt ch 0)) T] at hh
  have hP1 := pure_of_grown hg
  have hs1 := lt_of_block hh
  obtain ⟨g0, hg0⟩ : ∃ g0, g0 = w.heap.size := ⟨_, rfl⟩
  rw [← hg0] at hh hs1 ⊢
  have hg0w : w.heap.size ≤ g0 := by omega
  obtain ⟨B5, hB5⟩ : ∃ B5, B5 = w1.heap.size := ⟨_, rfl⟩
  have HH := Lib.hid (((Only.refl (fun _ => False) w1).alloc (.cells #[.slice (some ⟨g0, 0, none⟩) T T] 22)).heap hh (fun f => f))
  have HB := Lib.hid (show (w1.alloc (.cells #[.slice (some ⟨g0, 0, none⟩) T T] 22)).heap[B5]? = some (.cells #[.slice (some ⟨g0, 0, none⟩) T T] 22) from by rw [hB5]; exact World.alloc_heap_new w1 _)
  have HP := Lib.hid (hP1.alloc (.cells #[.slice (some ⟨g0, 0, none⟩) T T] 22))
  have hB5w : w.heap.size ≤ B5 := by have := hP1.size; omega
  have hgB : g0 ≠ B5 := by omega
  have hgB' := hgB
  clear hown hg hh hP1 hg0
  go_wp2_with fail
  rw [← hB5]
  clear hB5 hs1
  go_loopw [16] (fun i wr => ∃ k : Nat, k ≤ T ∧ i = .int .i64 k ∧ Hid (wr.heap[g0]? = some (.cells ((partOf (least1 (lAt ch 0)) T k).map (Value.int .i64)).toArray 2 (0, 0))) ∧ Hid (wr.heap[B5]? = some (.cells #[.slice (some ⟨g0, 0, none⟩) T T] 22)) ∧ Hid (Pure w wr)) (fun i _ => T - (intOf i).toNat)
  case atStart => exact ⟨0, by omega, rfl, HH, HB, HP⟩
  case round =>
    obtain ⟨k, hk, rfl, hh, hB, hP⟩ := hrel
    by_cases hlt : k < T
    · have k5 := cell_of_row _ _ 0 _ _ _ hB.out
      have kc := hP.out.cell c0 (fun f => f)
      have hl := HL0.out k (by omega)
      have hst := partOf_set (least1 (lAt ch 0)) T k
      obtain ⟨y, hy⟩ : ∃ y, least1 (lAt ch 0) k = y := ⟨_, rfl⟩
      rw [hy] at hst
      simp only [hy] at hl
      have HL := Lib.hid hl; have HST := Lib.hid hst
      have g5 := fun g => grow_cell k5 g; have gc := fun g => grow_cell kc g
      clear hl hst hy
      go_wp2_with fail
      refine mixed_start (by kernel_rfl) ?_
      refine mixed_take [0, 1, 2, 3, 4, 5] (by kernel_rfl) (Only.refl _ _).drew (fun d _ _ _ _ h => by cases d <;> exact h) 3 (by kernel_rfl) ?_
      simp only [picks, List.drop_succ_cons, List.drop_zero, List.take_succ_cons, List.take_zero, List.cons_append, List.nil_append]
      repeat (go_big_quiet_step (fail))
      refine wpQuiet_nil ?_
      refine mixed_force (i := 6) (by kernel_rfl) rfl ?_
      go_wp2_with fail
      refine (HL.out wr.drew hP.out.drew).mono ?_
      rintro e w5 ⟨rfl, P5⟩
      have P6 := Lib.hid ((Only.refl (fun _ => False) wr).drew.trans P5)
      have h6 := P6.out.heap hh.out (fun f => f)
      have fr5 : ∀ j, w5.frozen? ⟨g0, j, none⟩ = false := fun j => arr_frozen h6 j
      have kk := arr_get h6 k (by rw [partOf_len]; exact hlt)
      have hst := arr_store h6 k y
      rw [HST.out] at hst
      have HS6 := Lib.hid hst
      have HO := Lib.hid (Only.setCell (hP.out.trans P6.out) (.inr hg0w) (p := ⟨g0, k, none⟩) (.int .i64 y))
      have HB6 := Lib.hid (((Only.refl (fun x => x = g0) w5).setCell (p := ⟨g0, k, none⟩) (.inl rfl) (.int .i64 y)).heap (P6.out.heap hB.out (fun f => f)) (Ne.symm hgB))
      clear P5 g5 gc k5 kc h6 hst
      go_wp2_with fail
      refine ⟨P6.out, ?_⟩
      refine mixed_take [7] (by kernel_rfl) P6.out (fun d _ _ _ _ h => by cases d <;> exact h) 1 (by kernel_rfl) ?_
      simp only [picks, List.drop_succ_cons, List.drop_zero, List.take_succ_cons, List.take_zero, List.cons_append, List.nil_append]
      repeat (go_big_quiet_step (fail))
      refine wpQuiet_nil ?_
      refine mixed_last (i := 8) (by kernel_rfl) rfl (by kernel_rfl) (by kernel_rfl) ?_
      go_wp2
      go_roundw
      case rel => exact ⟨k + 1, by omega, by go_num, HS6, HB6, HO⟩
      case measure => simp [intOf]; omega
    · obtain rfl : T = k := by omega
      have h2 := hh.out
      rw [partOf_all, ← HLS0.out] at h2
      have HH2 := Lib.hid h2; have hB' := hB; have hP' := hP
      clear h2 hh hB hP HH HB HP hgB
      go_wp2_with fail
      go_loopw [31] (fun i wr => ∃ j : Nat, j ≤ M ∧ i = .int .i64 j ∧ ∃ g, w.heap.size ≤ g ∧ g ≠ B5 ∧ Hid (wr.heap[g]? = some (.cells ((lsTo ch turns j).map (Value.int .i64)).toArray 2 (0, 0))) ∧ Hid (wr.heap[B5]? = some (.cells #[.slice (some ⟨g, 0, none⟩) T T] 22)) ∧ Hid (Pure w wr)) (fun i _ => M - (intOf i).toNat)
      case atStart => exact ⟨0, by omega, rfl, g0, hg0w, hgB', HH2, hB', hP'⟩
      case round =>
        obtain ⟨j, hj, rfl, g, hgw, hgB, hh, hB, hP⟩ := hrel
        by_cases hjlt : j < M
        · obtain ⟨b', off', u, he, _, cj, hu⟩ := HC.out (j + 1) (by have := HM.out; omega)
          simp only [Option.some.injEq, Addr.mk.injEq, and_true] at he
          obtain ⟨rfl, rfl⟩ := he
          obtain rfl := HAD.out (by have := HM.out; omega)
          rw [show off + (j + 1) = off + 1 + j by omega] at cj
          have kj := hP.out.cell cj (fun f => f)
          have hud := hu.pure hP.out
          obtain ⟨u1', u2', u3', rfl⟩ := hu.form
          have HUD := Lib.hid hud
          clear cj hu hud
          go_wp2_with (at_make; refine wpList_make_full _ rfl _ _ 22 rfl wr.heap.size 2 i0 (.int .i64 0) 1 Try.underlying22 hi hz0 hz1 .i64 .i64 _ _ T rfl rfl rfl rfl (by rw [hz2]; omega) (by unfold maxLen; omega) (by simp) ?_; intro w3 hown hg)
          first | rw [made_zeros] at hown | rw [made_zeros1] at hown
          obtain ⟨c, hcc⟩ : ∃ c, lAt ch (j + 1) = c := ⟨_, rfl⟩
          obtain ⟨out, hout⟩ : ∃ o, lsTo ch turns j = o := ⟨_, rfl⟩
          have hsu := HSU.out j hjlt
          have hcb := HCH.out j hjlt
          have hc1 := HCH1.out j hjlt
          have hob := HBD.out j (by omega)
          have hol := HLEN.out j
          have hud := HUD.out
          rw [hcc, hout] at hsu
          rw [hcc] at hcb hc1 hud
          rw [hout] at hob hol hh
          have hB8 := World.alloc_heap_new wr (.cells #[.slice u1' u2' u3'] 22)
          have hP3 : Pure (wr.alloc (.cells #[.slice u1' u2' u3'] 22)) w3 := pure_of_grown hg
          have hh3 := (owns_full hown).1
          rw [← partOf_zero (nextF out c) T] at hh3
          obtain ⟨B8, hB8e⟩ : ∃ B8, B8 = wr.heap.size := ⟨_, rfl⟩
          obtain ⟨g', hg'e⟩ : ∃ g', g' = wr.heap.size + 1 := ⟨_, rfl⟩
          have hsz : (wr.alloc (.cells #[.slice u1' u2' u3'] 22)).heap.size = wr.heap.size + 1 := by simp
          rw [hsz] at hh3
          simp only [World.size_alloc] at *
          rw [← hB8e] at hB8
          rw [← hg'e] at hh3
          have hPr : Pure wr w3 := hP3.of_alloc
          have hBlt := lt_of_block hB.out
          have hglt := lt_of_block hh.out
          have hgB' : g' ≠ B5 := by omega
          have hgw' : w.heap.size ≤ g' := by have := hP.out.size; omega
          have hgr : wr.heap.size ≤ g' := by omega
          have hB8g : B8 ≠ g' := by omega
          have K3 := Lib.hid hh3
          have K8 := Lib.hid (hP3.heap hB8 (fun f => f))
          have KP := Lib.hid hPr
          have HSUJ := Lib.hid hsu; have HCB := Lib.hid hcb; have HC1 := Lib.hid hc1; have HOB := Lib.hid hob; have HOL := Lib.hid hol; have HUD2 := Lib.hid hud
          clear hsu hcb hc1 hob hol hud hcc hout hB8 hP3 hh3 hPr hown hg hBlt hglt kj HUD hsz
          go_wp2_with fail
          rw [← hg'e, ← hB8e]
          clear hB8e hg'e
          have hhr := hh; have hBr := hB; have hPr := hP
          clear hh hB hP
          obtain ⟨wo, hwo⟩ : ∃ x, x = wr := ⟨_, rfl⟩
          subst hwo
          go_loopw [40] (fun i wr => ∃ k : Nat, k ≤ T ∧ i = .int .i64 k ∧ Hid (wr.heap[g']? = some (.cells ((partOf (nextF out c) T k).map (Value.int .i64)).toArray 2 (0, 0))) ∧ Hid (wr.heap[B8]? = some (.cells #[.slice u1' u2' u3'] 22)) ∧ Hid (Pure wo wr)) (fun i _ => T - (intOf i).toNat)
          case atStart => exact ⟨0, by omega, rfl, K3, K8, KP⟩
          case round =>
            obtain ⟨k, hk, rfl, q3, q8, qP⟩ := hrel
            by_cases hlt : k < T
            · obtain ⟨wz, hwz⟩ : ∃ x, x = wr.alloc (.cells #[.int .i64 k] 3) := ⟨_, rfl⟩
              have hb10 := World.alloc_heap_new wr (.cells #[.int .i64 k] 3)
              have hPa := (Only.refl (fun _ => False) wr).alloc (.cells #[.int .i64 k] 3)
              rw [← hwz] at hb10 hPa
              have r5 := hPa.heap (qP.out.heap hBr.out (fun f => f)) (fun f => f)
              have r8 := hPa.heap q8.out (fun f => f)
              have rg := hPa.heap (qP.out.heap hhr.out (fun f => f)) (fun f => f)
              have r3 := hPa.heap q3.out (fun f => f)
              have d5 : wz.cell? ⟨B5, 0, none⟩ = some _ := cell_of_row _ _ 0 _ _ _ r5
              have d8 : wz.cell? ⟨B8, 0, none⟩ = some _ := cell_of_row _ _ 0 _ _ _ r8
              have d10 : wz.cell? ⟨wr.heap.size, 0, none⟩ = some (.int .i64 k) := cell_of_row _ _ 0 _ _ _ hb10
              have hs := fun W (hW : Pure wz W) => smallest_any 74 _ _ k _ W (enters_of Try.func74 (by kernel_rfl) rfl) (leasts1_any D out c (.slice u1' u2' u3') g B5 wr.heap.size B8 T k W HOL.out hlt hT400 (hW.cell d5 (fun f => f)) (hW.cell d10 (fun f => f)) (hW.cell d8 (fun f => f)) (hW.heap rg (fun f => f)) (HUD2.out.pure ((qP.out.trans hPa).trans hW)) HC1.out HCB.out HOB.out) (Only.refl _ _) (by omega)
              have hst := partOf_set (nextF out c) T k
              have hsm : smallTo (fun p => nAt out (k - p) + least1 c p) k = nextF out c k := rfl
              obtain ⟨y, hy⟩ : ∃ y, nextF out c k = y := ⟨_, rfl⟩
              rw [hy] at hst
              simp only [hsm, hy] at hs
              obtain ⟨B10, hB10⟩ : ∃ B, B = wr.heap.size := ⟨_, rfl⟩
              rw [← hB10] at d10 hs
              have HS := Lib.hid hs; have HST := Lib.hid hst; have R3 := Lib.hid r3; have R8 := Lib.hid r8; have RP := Lib.hid (qP.out.trans hPa); have HPA := Lib.hid hPa
              have g5 := fun g => grow_cell d5 g; have g10 := fun g => grow_cell d10 g
              clear hs hst hsm hy r3 r8 rg r5 hb10 hPa q3 q8 qP d8
              go_wp2_with fail
              rw [← hB10, ← hwz]
              clear hB10 hwz
              refine mixed_start (by kernel_rfl) ?_
              refine mixed_take [0, 1, 2, 3] (by kernel_rfl) (Only.refl _ _).drew (fun d _ _ _ _ h => by cases d <;> exact h) 3 (by kernel_rfl) ?_
              simp only [picks, List.drop_succ_cons, List.drop_zero, List.take_succ_cons, List.take_zero, List.cons_append, List.nil_append]
              repeat (go_big_quiet_step (fail))
              refine wpQuiet_nil ?_
              refine mixed_force (i := 4) (by kernel_rfl) rfl ?_
              go_wp2_with fail
              refine (HS.out wz.drew (Only.refl _ _).drew).mono ?_
              rintro e w5 ⟨rfl, P5⟩
              have P6 := Lib.hid ((Only.refl (fun _ => False) wz).drew.trans P5)
              have h6 := P6.out.heap R3.out (fun f => f)
              have fr5 : ∀ j, w5.frozen? ⟨g', j, none⟩ = false := fun j => arr_frozen h6 j
              have kk := arr_get h6 k (by rw [partOf_len]; exact hlt)
              have hst := arr_store h6 k y
              rw [HST.out] at hst
              have HS6 := Lib.hid hst
              have HO := Lib.hid (Only.setCell (RP.out.trans P6.out) (.inr hgr) (p := ⟨g', k, none⟩) (.int .i64 y))
              have HB6 := Lib.hid (((Only.refl (fun x => x = g') w5).setCell (p := ⟨g', k, none⟩) (.inl rfl) (.int .i64 y)).heap (P6.out.heap R8.out (fun f => f)) hB8g)
              clear P5 g5 g10 d5 d10 h6 hst
              go_wp2_with fail
              refine ⟨P6.out, ?_⟩
              refine mixed_take [5] (by kernel_rfl) P6.out (fun d _ _ _ _ h => by cases d <;> exact h) 1 (by kernel_rfl) ?_
              simp only [picks, List.drop_succ_cons, List.drop_zero, List.take_succ_cons, List.take_zero, List.cons_append, List.nil_append]
              repeat (go_big_quiet_step (fail))
              refine wpQuiet_nil ?_
              refine mixed_last (i := 6) (by kernel_rfl) rfl (by kernel_rfl) (by kernel_rfl) ?_
              go_wp2
              go_roundw
              case rel => exact ⟨k + 1, by omega, by go_num, HS6, HB6, HO⟩
              case measure => simp [intOf]; omega
            · obtain rfl : T = k := by omega
              have h3 := q3.out
              rw [partOf_all, ← HSUJ.out] at h3
              have hB6 := qP.out.heap hBr.out (fun f => f)
              have fr5 : wr.frozen? ⟨B5, 0, none⟩ = false := arr_frozen hB6 0
              have d5 : wr.cell? ⟨B5, 0, none⟩ = some _ := cell_of_row _ _ 0 _ _ _ hB6
              have hset := heap_setCell_same wr _ 0 _ _ (.slice (some ⟨g', 0, none⟩) T T) hB6
              have HS6 := Lib.hid (show (wr.setCell ⟨B5, 0, none⟩ (.slice (some ⟨g', 0, none⟩) T T)).heap[B5]? = some (.cells #[.slice (some ⟨g', 0, none⟩) T T] 22) from hset)
              have H36 := Lib.hid (((Only.refl (fun x => x = B5) wr).setCell (p := ⟨B5, 0, none⟩) (.inl rfl) (.slice (some ⟨g', 0, none⟩) T T)).heap h3 hgB')
              have HO := Lib.hid (Only.setCell (hPr.out.trans qP.out) (.inr hB5w) (p := ⟨B5, 0, none⟩) (.slice (some ⟨g', 0, none⟩) T T))
              clear h3 hB6 hset q3 q8 qP
              go_wp2
              go_roundw
              case rel => exact ⟨j + 1, by omega, by go_num, g', hgw', hgB', H36, HS6, HO⟩
              case measure => simp [intOf]; omega
        · obtain rfl : M = j := by omega
          have h2 := hh.out
          rw [HALL.out] at h2
          have HH2 := Lib.hid h2
          have k5 := cell_of_row _ _ 0 _ _ _ hB.out
          clear h2
          go_wp2
          go_ret
          exact ⟨g, hgw, rfl, HH2.out, hP.out⟩
end Go.Proofs.Ytcephfmafmmilaa
