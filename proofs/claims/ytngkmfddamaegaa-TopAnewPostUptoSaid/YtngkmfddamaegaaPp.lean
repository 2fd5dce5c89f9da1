/-
  What each function is asked, twice.
-/
import Derived.Test.YtngkmfddamaegaaPo
namespace Go.Proofs.Ytngkmfddamaegaa
open Go.RowKit

/-- The arguments, in their box. -/
structure ArgsAt (D : Nat → Prop) (w : World) (bx : Nat) (p : Pool) (truth : List Int) (runner dividend : Int) (l : List Pool) (a : Option Addr) (tn tc : Nat) (tv pv : Value) : Prop where
  box : w.heap[bx]? = some (.cells #[.slice a tn tc, .int .i64 p.per, .int .i64 p.pence, .int .i64 p.keep, .int .i64 p.step, tv, .int .i64 runner, .int .i64 dividend, pv] 28 (0, 0))
  pool : PoolAt D w (.agg #[.slice a tn tc, .int .i64 p.per, .int .i64 p.pence, .int .i64 p.keep, .int .i64 p.step]) p
  truth : Ints D w tv truth
  pools : PoolsAt D w pv l

theorem ArgsAt.keep {D S : Nat → Prop} {w w' : World} {bx : Nat} {p : Pool} {truth : List Int} {runner dividend : Int} {l : List Pool} {a : Option Addr} {tn tc : Nat} {tv pv : Value} (h : ArgsAt D w bx p truth runner dividend l a tn tc tv pv)
    (ho : Only S w w') (hd : ∀ k, D k → ¬ S k) (hb : ¬ S bx) : ArgsAt D w' bx p truth runner dividend l a tn tc tv pv :=
  ⟨ho.heap h.box hb, h.pool.keep ho hd, h.truth.keep ho hd, h.pools.keep ho hd⟩

theorem ArgsAt.cells {D : Nat → Prop} {w : World} {bx : Nat} {p : Pool} {truth : List Int} {runner dividend : Int} {l : List Pool} {a : Option Addr} {tn tc : Nat} {tv pv : Value} (h : ArgsAt D w bx p truth runner dividend l a tn tc tv pv) :
    w.cell? ⟨bx, 0, none⟩ = some (.slice a tn tc) ∧ w.cell? ⟨bx, 1, none⟩ = some (.int .i64 p.per) ∧ w.cell? ⟨bx, 2, none⟩ = some (.int .i64 p.pence) ∧ w.cell? ⟨bx, 3, none⟩ = some (.int .i64 p.keep) ∧ w.cell? ⟨bx, 4, none⟩ = some (.int .i64 p.step) ∧
    w.cell? ⟨bx, 5, none⟩ = some tv ∧ w.cell? ⟨bx, 6, none⟩ = some (.int .i64 runner) ∧ w.cell? ⟨bx, 7, none⟩ = some (.int .i64 dividend) ∧ w.cell? ⟨bx, 8, none⟩ = some pv :=
  ⟨cell_of_row _ _ _ _ _ _ h.box, cell_of_row _ _ _ _ _ _ h.box, cell_of_row _ _ _ _ _ _ h.box, cell_of_row _ _ _ _ _ _ h.box, cell_of_row _ _ _ _ _ _ h.box, cell_of_row _ _ _ _ _ _ h.box, cell_of_row _ _ _ _ _ _ h.box, cell_of_row _ _ _ _ _ _ h.box, cell_of_row _ _ _ _ _ _ h.box⟩

theorem owns_keep {w w' : World} {S : Nat → Prop} {B : Nat} {e : TypeId} {s n : Nat} {v : Value} {xs : List Value} (h : w.ownsRow B e s v n xs) (ho : Only S w w') (hs : ∀ k, v.ownBlock = some k → ¬ S k) : w'.ownsRow B e s v n xs := by
  refine ⟨h.1, ?_⟩
  rcases h.2 with hn | ⟨g, cap, cur, rfl, hb, hg, rest⟩
  · exact .inl hn
  · exact .inr ⟨g, cap, cur, rfl, hb, ho.heap hg (hs g rfl), rest⟩

theorem flat_one {α β : Type} (f : α → β) (l : List α) : l.flatMap (fun a => [f a]) = l.map f := by
  induction l with
  | nil => rfl
  | cons a l ih => simp [ih]
theorem flat_none {α β : Type} (l : List α) : l.flatMap (fun _ => ([] : List β)) = [] := by
  induction l with
  | nil => rfl
  | cons a l ih => simp
theorem enc_row {w : World} {B : Nat} {v : Value} {l : List Int} (h : w.ownsRow B 2 1 v l.length (l.map (.int .i64))) : Enc (fun k => v.ownBlock = some k) w (.list (.num .i64)) [v] ((l.length : Int) :: l) [] := by
  have hs := ownsRow_slice h
  have := Enc.list (D := fun k => v.ownBlock = some k) (w := w) (e := .num .i64) (v := v) (l.map fun x => ([Value.int .i64 x], [x], []))
    (by rw [List.flatMap_map]; simp only [flat_one]; exact hs) (by simp [Sh.size])
    (fun r hr => by obtain ⟨x, _, rfl⟩ := List.mem_map.1 hr; rfl) (fun r hr => by obtain ⟨x, _, rfl⟩ := List.mem_map.1 hr; exact .num _ _)
  rw [List.flatMap_map, List.flatMap_map, List.length_map] at this
  simp only [flat_one, flat_none, List.map_id'] at this
  exact this

theorem step_pure {hb : Nat} {w w' : World} {ns : List Int} {ss : List ByteArray} (h : HeapIs hb w ns ss) (hp : Pure w w') : Step hb w w' ∧ HeapIs hb w' ns ss := by
  obtain ⟨vn, vs, hh, _, _⟩ := id h
  exact ⟨⟨hp.mono (fun _ _ f => f.elim), fun k hk => .inl (in_stay hp hh (fun f => f) hk)⟩, h.keep hp (fun _ _ f => f)⟩

theorem nothing_any (w : World) : Calls Try.prog 9 #[] w fun e w' => e = .returned (.tuple #[]) ∧ Only (fun _ => False) w w' := by
  go_enter Try.func9, Try.ntmps9
  go_wp2
  go_end0
  exact ⟨rfl, Only.refl _ _⟩

theorem worst_small (p : Pool) (runner dividend : Int) : (worstR p runner dividend).1.length ≤ 8 := by
  unfold worstR
  by_cases h : checkW p runner dividend = 0
  · rw [if_neg (by simpa using h), truthW_len]; exact (valid_of (checkW_of h).1).2.1
  · rw [if_pos h]; simp
theorem refute_small (p : Pool) (runner dividend : Int) : (refuteR p runner dividend).1.length ≤ 8 := by
  unfold refuteR
  by_cases h : checkW p runner dividend = 0
  · rw [if_neg (by simpa using h)]
    split
    · simp
    · rw [truthW_len]; exact (valid_of (checkW_of h).1).2.1
  · rw [if_pos h]; simp
theorem board_small (p : Pool) : (boardR p).1.length ≤ 8 := by
  unfold boardR
  by_cases h : checkPool p = 0
  · rw [if_neg (by simpa using h)]
    split
    · simp
    · simp; exact (valid_of h).2.1
  · rw [if_pos h]; simp

set_option maxHeartbeats 1000000 in
set_option maxRecDepth 100000 in
theorem ask_CheckPool {W : World} {bx : Nat} {p : Pool} {truth : List Int} {runner dividend : Int} {l : List Pool} {a : Option Addr} {tn tc : Nat} {tv pv : Value} (h : ArgsAt (fun k => k < W.heap.size) W bx p truth runner dividend l a tn tc tv pv) (hbx : bx < W.heap.size) : Asks 6 bx W ([(checkPool p)]) [] := by
  intro w hb hB hhb hH hI
  have hA := h.keep (Only.below hB) (fun k hk hn => by omega) (by omega)
  obtain ⟨x0, x1, x2, x3, x4, x5, x6, x7, x8⟩ := hA.cells
  have hC := checkPool_any _ _ p w hA.pool
  obtain ⟨R, hR⟩ : ∃ x, checkPool p = x := ⟨_, rfl⟩
  have HR := Lib.hid hR
  rw [hR] at hC ⊢
  clear hR
  obtain ⟨sv, hsv⟩ : ∃ n, w.heap.size = n := ⟨_, rfl⟩
  have HI := Lib.hid hI; clear hI hB hsv
  obtain ⟨t1, t2, t3, rfl⟩ : ∃ a n c, tv = .slice a n c := by obtain ⟨a, n, c, rfl, _⟩ := hA.truth; exact ⟨_, _, _, rfl⟩
  obtain ⟨q1, q2, q3, rfl⟩ : ∃ a n c, pv = .slice a n c := by obtain ⟨a, n, c, rfl, _⟩ := hA.pools; exact ⟨_, _, _, rfl⟩
  clear hA
  go_enter Try.func6, Try.ntmps6
  go_wp2_with fail
  refine hC.mono ?_
  rintro e w1 ⟨rfl, P1⟩
  obtain ⟨hS0, hH0⟩ := step_pure hH P1
  clear hC P1
  go_wp2_with fail
  refine (putErrno_any hb (.int .i64 R) (fun _ => False) [] [] [R] [] _ hH0 (fun _ f => f.elim) (.num _ _) (by constructor <;> simp)).mono ?_
  rintro e w2 ⟨rfl, hH1, hT1⟩
  have hS1 := hS0.trans hT1
  have HS := Lib.hid hS1; have HH := Lib.hid hH1
  go_wp2
  go_ret
  exact ⟨9, #[], fun _ => False, rfl, enters_of Try.func9 (by kernel_rfl) rfl, by simpa using HH.out, HS.out, fun _ f => f.elim, nothing_any _⟩

set_option maxHeartbeats 1000000 in
set_option maxRecDepth 100000 in
theorem ask_Net {W : World} {bx : Nat} {p : Pool} {truth : List Int} {runner dividend : Int} {l : List Pool} {a : Option Addr} {tn tc : Nat} {tv pv : Value} (h : ArgsAt (fun k => k < W.heap.size) W bx p truth runner dividend l a tn tc tv pv) (hbx : bx < W.heap.size) : Asks 10 bx W ([(netR p truth).1] ++ [(netR p truth).2]) [] := by
  intro w hb hB hhb hH hI
  have hA := h.keep (Only.below hB) (fun k hk hn => by omega) (by omega)
  obtain ⟨x0, x1, x2, x3, x4, x5, x6, x7, x8⟩ := hA.cells
  have hC := Net_any _ _ _ _ p truth w hA.pool hA.truth
  obtain ⟨R, hR⟩ : ∃ x, netR p truth = x := ⟨_, rfl⟩
  have HR := Lib.hid hR
  rw [hR] at hC ⊢
  clear hR
  obtain ⟨sv, hsv⟩ : ∃ n, w.heap.size = n := ⟨_, rfl⟩
  have HI := Lib.hid hI; clear hI hB hsv
  obtain ⟨t1, t2, t3, rfl⟩ : ∃ a n c, tv = .slice a n c := by obtain ⟨a, n, c, rfl, _⟩ := hA.truth; exact ⟨_, _, _, rfl⟩
  obtain ⟨q1, q2, q3, rfl⟩ : ∃ a n c, pv = .slice a n c := by obtain ⟨a, n, c, rfl, _⟩ := hA.pools; exact ⟨_, _, _, rfl⟩
  clear hA
  go_enter Try.func10, Try.ntmps10
  go_wp2_with fail
  refine hC.mono ?_
  rintro e w1 ⟨rfl, P1⟩
  obtain ⟨hS0, hH0⟩ := step_pure hH P1
  clear hC P1
  go_wp2_with fail
  refine (putInt64_any hb (.int .i64 R.1) (fun _ => False) [] [] [R.1] [] _ hH0 (fun _ f => f.elim) (.num _ _) (by constructor <;> simp)).mono ?_
  rintro e w2 ⟨rfl, hH1, hT1⟩
  have hS1 := hS0.trans hT1
  go_wp2_with fail
  refine (putErrno_any hb (.int .i64 R.2) (fun _ => False) ([] ++ [R.1]) [] [R.2] [] _ hH1 (fun _ f => f.elim) (.num _ _) (by constructor <;> simp)).mono ?_
  rintro e w3 ⟨rfl, hH2, hT2⟩
  have hS2 := hS1.trans hT2
  have HS := Lib.hid hS2; have HH := Lib.hid hH2
  go_wp2
  go_ret
  exact ⟨9, #[], fun _ => False, rfl, enters_of Try.func9 (by kernel_rfl) rfl, by simpa using HH.out, HS.out, fun _ f => f.elim, nothing_any _⟩

set_option maxHeartbeats 1000000 in
set_option maxRecDepth 100000 in
theorem ask_Left {W : World} {bx : Nat} {p : Pool} {truth : List Int} {runner dividend : Int} {l : List Pool} {a : Option Addr} {tn tc : Nat} {tv pv : Value} (h : ArgsAt (fun k => k < W.heap.size) W bx p truth runner dividend l a tn tc tv pv) (hbx : bx < W.heap.size) : Asks 13 bx W ([(leftR p truth runner dividend).1] ++ [(leftR p truth runner dividend).2]) [] := by
  intro w hb hB hhb hH hI
  have hA := h.keep (Only.below hB) (fun k hk hn => by omega) (by omega)
  obtain ⟨x0, x1, x2, x3, x4, x5, x6, x7, x8⟩ := hA.cells
  have hC := Left_any _ _ _ _ p truth runner dividend w hA.pool hA.truth
  obtain ⟨R, hR⟩ : ∃ x, leftR p truth runner dividend = x := ⟨_, rfl⟩
  have HR := Lib.hid hR
  rw [hR] at hC ⊢
  clear hR
  obtain ⟨sv, hsv⟩ : ∃ n, w.heap.size = n := ⟨_, rfl⟩
  have HI := Lib.hid hI; clear hI hB hsv
  obtain ⟨t1, t2, t3, rfl⟩ : ∃ a n c, tv = .slice a n c := by obtain ⟨a, n, c, rfl, _⟩ := hA.truth; exact ⟨_, _, _, rfl⟩
  obtain ⟨q1, q2, q3, rfl⟩ : ∃ a n c, pv = .slice a n c := by obtain ⟨a, n, c, rfl, _⟩ := hA.pools; exact ⟨_, _, _, rfl⟩
  clear hA
  go_enter Try.func13, Try.ntmps13
  go_wp2_with fail
  refine hC.mono ?_
  rintro e w1 ⟨rfl, P1⟩
  obtain ⟨hS0, hH0⟩ := step_pure hH P1
  clear hC P1
  go_wp2_with fail
  refine (putInt64_any hb (.int .i64 R.1) (fun _ => False) [] [] [R.1] [] _ hH0 (fun _ f => f.elim) (.num _ _) (by constructor <;> simp)).mono ?_
  rintro e w2 ⟨rfl, hH1, hT1⟩
  have hS1 := hS0.trans hT1
  go_wp2_with fail
  refine (putErrno_any hb (.int .i64 R.2) (fun _ => False) ([] ++ [R.1]) [] [R.2] [] _ hH1 (fun _ f => f.elim) (.num _ _) (by constructor <;> simp)).mono ?_
  rintro e w3 ⟨rfl, hH2, hT2⟩
  have hS2 := hS1.trans hT2
  have HS := Lib.hid hS2; have HH := Lib.hid hH2
  go_wp2
  go_ret
  exact ⟨9, #[], fun _ => False, rfl, enters_of Try.func9 (by kernel_rfl) rfl, by simpa using HH.out, HS.out, fun _ f => f.elim, nothing_any _⟩

set_option maxHeartbeats 1000000 in
set_option maxRecDepth 100000 in
theorem wipe_Worst (B nb : Nat) (v : Value) (l : List Int) (w : World) (h : w.ownsRow B 2 1 v l.length (l.map (.int .i64))) (hc : w.cell? ⟨nb, 0, none⟩ = some v) :
    Calls Try.prog 18 #[.pointer (some ⟨nb, 0, none⟩)] w fun e w' => e = .returned (.tuple #[]) ∧ Only (fun k => v.ownBlock = some k) w w' := by
  go_enter Try.func18, Try.ntmps18
  go_wp2_with fail
  refine (wipeInt64s_any B nb v l w h hc).mono ?_
  rintro e w2 ⟨rfl, hO⟩
  go_wp2
  go_end0
  exact ⟨rfl, hO⟩

set_option maxHeartbeats 1000000 in
set_option maxRecDepth 100000 in
theorem ask_Worst {W : World} {bx : Nat} {p : Pool} {truth : List Int} {runner dividend : Int} {l : List Pool} {a : Option Addr} {tn tc : Nat} {tv pv : Value} (h : ArgsAt (fun k => k < W.heap.size) W bx p truth runner dividend l a tn tc tv pv) (hbx : bx < W.heap.size) : Asks 15 bx W ((((worstR p runner dividend).1.length : Int) :: (worstR p runner dividend).1) ++ [(worstR p runner dividend).2.1] ++ [(worstR p runner dividend).2.2]) [] := by
  intro w hb hB hhb hH hI
  have hA := h.keep (Only.below hB) (fun k hk hn => by omega) (by omega)
  obtain ⟨x0, x1, x2, x3, x4, x5, x6, x7, x8⟩ := hA.cells
  have hC := Worst_any _ _ p runner dividend w hA.pool
  obtain ⟨R, hR⟩ : ∃ x, worstR p runner dividend = x := ⟨_, rfl⟩
  have HR := Lib.hid hR
  have hsm := worst_small p runner dividend
  rw [hR] at hsm
  rw [hR] at hC ⊢
  clear hR
  obtain ⟨sv, hsv⟩ : ∃ n, w.heap.size = n := ⟨_, rfl⟩
  have HI := Lib.hid hI; clear hI hB hsv
  obtain ⟨t1, t2, t3, rfl⟩ : ∃ a n c, tv = .slice a n c := by obtain ⟨a, n, c, rfl, _⟩ := hA.truth; exact ⟨_, _, _, rfl⟩
  obtain ⟨q1, q2, q3, rfl⟩ : ∃ a n c, pv = .slice a n c := by obtain ⟨a, n, c, rfl, _⟩ := hA.pools; exact ⟨_, _, _, rfl⟩
  clear hA
  go_enter Try.func15, Try.ntmps15
  go_wp2_with fail
  refine hC.mono ?_
  rintro e w1 ⟨u, rfl, hF, P1⟩
  obtain ⟨u1, u2, u3, rfl⟩ : ∃ a n c, u = .slice a n c := by
    rcases hF.2 with ⟨rfl, _⟩ | ⟨g, cap, cur, rfl, _⟩ <;> exact ⟨_, _, _, rfl⟩
  have hP1 := P1.alloc (.cells #[.slice u1 u2 u3] 25)
  obtain ⟨hS0, hH0⟩ := step_pure hH hP1
  have hFB := (hF.lt)
  have hrow : (w1.alloc (.cells #[.slice u1 u2 u3] 25)).ownsRow w.heap.size 2 1 (.slice u1 u2 u3) R.1.length (R.1.map (.int .i64)) := World.ownsRow.alloc hF _
  have hnb : (w1.alloc (.cells #[.slice u1 u2 u3] 25)).heap[w1.heap.size]? = some (.cells #[.slice u1 u2 u3] 25 (0, 0)) := World.alloc_heap_new w1 _
  have hD : ∀ k, (Value.slice u1 u2 u3).ownBlock = some k → ¬ InHeap hb (w1.alloc (.cells #[.slice u1 u2 u3] 25)) k := fun k hk hi => by
    have h1 := (hFB k hk).1
    obtain ⟨vn, vs, hh, _, _⟩ := id hH
    have h2 := InHeap.lt hH (in_stay hP1 hh (fun f => f) hi)
    omega
  have hDn : ¬ InHeap hb (w1.alloc (.cells #[.slice u1 u2 u3] 25)) w1.heap.size := fun hi => by
    obtain ⟨vn, vs, hh, _, _⟩ := id hH
    have h2 := InHeap.lt hH (in_stay hP1 hh (fun f => f) hi)
    have := P1.size
    omega
  have hP1s := P1.size
  have HX := Lib.hid hFB; have HFl := Lib.hid hP1s
  clear hC P1 hF hFB
  go_wp2_with fail
  refine (putInt64s_any hb (.slice u1 u2 u3) _ [] [] _ [] _ hH0 hD (enc_row hrow) (by constructor <;> simp <;> omega)).mono ?_
  rintro e w2 ⟨rfl, hH1, hT1⟩
  have hS1 := hS0.trans hT1
  have hrow := owns_keep hrow hT1.only hD
  have hnb := hT1.only.heap hnb hDn
  have hlt : ∀ k, (Value.slice u1 u2 u3).ownBlock = some k → k < (w1.alloc (.cells #[.slice u1 u2 u3] 25)).heap.size := fun k hk => by have := (HX.out k hk).2; simp; omega
  have hD := hT1.apart hD hlt
  have hDn := hT1.apart (D := fun k => k = w1.heap.size) (fun k hk => by rw [hk]; exact hDn) (fun k hk => by rw [hk]; simp) _ rfl
  have hsz := hT1.only.size
  simp only [World.size_alloc] at hsz hlt
  go_wp2_with fail
  refine (putInt64_any hb (.int .i64 R.2.1) (fun _ => False) ([] ++ ((R.1.length : Int) :: R.1)) [] [R.2.1] [] _ hH1 (fun _ f => f.elim) (.num _ _) (by constructor <;> simp <;> omega)).mono ?_
  rintro e w3 ⟨rfl, hH2, hT2⟩
  have hS2 := hS1.trans hT2
  have hrow := owns_keep hrow hT2.only hD
  have hnb := hT2.only.heap hnb hDn
  have hD := hT2.apart hD (fun k hk => by have := hlt k hk; omega)
  have hDn := hT2.apart (D := fun k => k = w1.heap.size) (fun k hk => by rw [hk]; exact hDn) (fun k hk => by omega) _ rfl
  have hsz := Nat.le_trans hsz hT2.only.size
  go_wp2_with fail
  refine (putErrno_any hb (.int .i64 R.2.2) (fun _ => False) (([] ++ ((R.1.length : Int) :: R.1)) ++ [R.2.1]) [] [R.2.2] [] _ hH2 (fun _ f => f.elim) (.num _ _) (by constructor <;> simp <;> omega)).mono ?_
  rintro e w4 ⟨rfl, hH3, hT3⟩
  have hS3 := hS2.trans hT3
  have hrow := owns_keep hrow hT3.only hD
  have hnb := hT3.only.heap hnb hDn
  have hD := hT3.apart hD (fun k hk => by have := hlt k hk; omega)
  have hDn := hT3.apart (D := fun k => k = w1.heap.size) (fun k hk => by rw [hk]; exact hDn) (fun k hk => by omega) _ rfl
  have hsz := Nat.le_trans hsz hT3.only.size
  have HS := Lib.hid hS3; have HH := Lib.hid hH3
  have HROW := Lib.hid hrow; have HNB := Lib.hid hnb; have HD := Lib.hid hD
  clear hrow hnb hD hDn hsz hlt
  go_wp2
  go_ret
  refine ⟨18, #[.pointer (some ⟨w1.heap.size, 0, none⟩)], fun k => (Value.slice u1 u2 u3).ownBlock = some k, rfl, enters_of Try.func18 (by kernel_rfl) rfl, by simpa using HH.out, HS.out, fun k hk => ⟨(HX.out k hk).1, HD.out k hk⟩, wipe_Worst _ _ _ _ _ HROW.out (cell_of_row _ _ _ _ _ _ HNB.out)⟩

set_option maxHeartbeats 1000000 in
set_option maxRecDepth 100000 in
theorem ask_Spread {W : World} {bx : Nat} {p : Pool} {truth : List Int} {runner dividend : Int} {l : List Pool} {a : Option Addr} {tn tc : Nat} {tv pv : Value} (h : ArgsAt (fun k => k < W.heap.size) W bx p truth runner dividend l a tn tc tv pv) (hbx : bx < W.heap.size) : Asks 20 bx W ([(spreadR p runner dividend).1, (spreadR p runner dividend).2.1] ++ [(spreadR p runner dividend).2.2]) [] := by
  intro w hb hB hhb hH hI
  have hA := h.keep (Only.below hB) (fun k hk hn => by omega) (by omega)
  obtain ⟨x0, x1, x2, x3, x4, x5, x6, x7, x8⟩ := hA.cells
  have hC := Spread_any _ _ p runner dividend w hA.pool
  obtain ⟨R, hR⟩ : ∃ x, spreadR p runner dividend = x := ⟨_, rfl⟩
  have HR := Lib.hid hR
  rw [hR] at hC ⊢
  clear hR
  obtain ⟨sv, hsv⟩ : ∃ n, w.heap.size = n := ⟨_, rfl⟩
  have HI := Lib.hid hI; clear hI hB hsv
  obtain ⟨t1, t2, t3, rfl⟩ : ∃ a n c, tv = .slice a n c := by obtain ⟨a, n, c, rfl, _⟩ := hA.truth; exact ⟨_, _, _, rfl⟩
  obtain ⟨q1, q2, q3, rfl⟩ : ∃ a n c, pv = .slice a n c := by obtain ⟨a, n, c, rfl, _⟩ := hA.pools; exact ⟨_, _, _, rfl⟩
  clear hA
  go_enter Try.func20, Try.ntmps20
  go_wp2_with fail
  refine hC.mono ?_
  rintro e w1 ⟨rfl, P1⟩
  have hP1 := P1.alloc (.cells #[.int .i64 R.1, .int .i64 R.2.1] 50)
  obtain ⟨hS0, hH0⟩ := step_pure hH hP1
  clear hC P1
  go_wp2_with fail
  refine (putRange_any hb (.int .i64 R.1) (.int .i64 R.2.1) (fun _ => False) [] [] [R.1, R.2.1] [] _ hH0 (fun _ f => f.elim) (.cons (.num _ _) (.cons (.num _ _) .nil)) (by constructor <;> simp)).mono ?_
  rintro e w2 ⟨rfl, hH1, hT1⟩
  have hS1 := hS0.trans hT1
  go_wp2_with fail
  refine (putErrno_any hb (.int .i64 R.2.2) (fun _ => False) ([] ++ [R.1, R.2.1]) [] [R.2.2] [] _ hH1 (fun _ f => f.elim) (.num _ _) (by constructor <;> simp)).mono ?_
  rintro e w3 ⟨rfl, hH2, hT2⟩
  have hS2 := hS1.trans hT2
  have HS := Lib.hid hS2; have HH := Lib.hid hH2
  go_wp2
  go_ret
  exact ⟨9, #[], fun _ => False, rfl, enters_of Try.func9 (by kernel_rfl) rfl, by simpa using HH.out, HS.out, fun _ f => f.elim, nothing_any _⟩

set_option maxHeartbeats 1000000 in
set_option maxRecDepth 100000 in
theorem ask_Dividend {W : World} {bx : Nat} {p : Pool} {truth : List Int} {runner dividend : Int} {l : List Pool} {a : Option Addr} {tn tc : Nat} {tv pv : Value} (h : ArgsAt (fun k => k < W.heap.size) W bx p truth runner dividend l a tn tc tv pv) (hbx : bx < W.heap.size) : Asks 23 bx W ([(dividendR p runner).1] ++ [(dividendR p runner).2]) [] := by
  intro w hb hB hhb hH hI
  have hA := h.keep (Only.below hB) (fun k hk hn => by omega) (by omega)
  obtain ⟨x0, x1, x2, x3, x4, x5, x6, x7, x8⟩ := hA.cells
  have hC := Dividend_any _ _ p runner w hA.pool
  obtain ⟨R, hR⟩ : ∃ x, dividendR p runner = x := ⟨_, rfl⟩
  have HR := Lib.hid hR
  rw [hR] at hC ⊢
  clear hR
  obtain ⟨sv, hsv⟩ : ∃ n, w.heap.size = n := ⟨_, rfl⟩
  have HI := Lib.hid hI; clear hI hB hsv
  obtain ⟨t1, t2, t3, rfl⟩ : ∃ a n c, tv = .slice a n c := by obtain ⟨a, n, c, rfl, _⟩ := hA.truth; exact ⟨_, _, _, rfl⟩
  obtain ⟨q1, q2, q3, rfl⟩ : ∃ a n c, pv = .slice a n c := by obtain ⟨a, n, c, rfl, _⟩ := hA.pools; exact ⟨_, _, _, rfl⟩
  clear hA
  go_enter Try.func23, Try.ntmps23
  go_wp2_with fail
  refine hC.mono ?_
  rintro e w1 ⟨rfl, P1⟩
  obtain ⟨hS0, hH0⟩ := step_pure hH P1
  clear hC P1
  go_wp2_with fail
  refine (putInt64_any hb (.int .i64 R.1) (fun _ => False) [] [] [R.1] [] _ hH0 (fun _ f => f.elim) (.num _ _) (by constructor <;> simp)).mono ?_
  rintro e w2 ⟨rfl, hH1, hT1⟩
  have hS1 := hS0.trans hT1
  go_wp2_with fail
  refine (putErrno_any hb (.int .i64 R.2) (fun _ => False) ([] ++ [R.1]) [] [R.2] [] _ hH1 (fun _ f => f.elim) (.num _ _) (by constructor <;> simp)).mono ?_
  rintro e w3 ⟨rfl, hH2, hT2⟩
  have hS2 := hS1.trans hT2
  have HS := Lib.hid hS2; have HH := Lib.hid hH2
  go_wp2
  go_ret
  exact ⟨9, #[], fun _ => False, rfl, enters_of Try.func9 (by kernel_rfl) rfl, by simpa using HH.out, HS.out, fun _ f => f.elim, nothing_any _⟩

set_option maxHeartbeats 1000000 in
set_option maxRecDepth 100000 in
theorem wipe_Board (B nb : Nat) (v : Value) (l : List Int) (w : World) (h : w.ownsRow B 2 1 v l.length (l.map (.int .i64))) (hc : w.cell? ⟨nb, 0, none⟩ = some v) :
    Calls Try.prog 27 #[.pointer (some ⟨nb, 0, none⟩)] w fun e w' => e = .returned (.tuple #[]) ∧ Only (fun k => v.ownBlock = some k) w w' := by
  go_enter Try.func27, Try.ntmps27
  go_wp2_with fail
  refine (wipeInt64s_any B nb v l w h hc).mono ?_
  rintro e w2 ⟨rfl, hO⟩
  go_wp2
  go_end0
  exact ⟨rfl, hO⟩

set_option maxHeartbeats 1000000 in
set_option maxRecDepth 100000 in
theorem ask_Board {W : World} {bx : Nat} {p : Pool} {truth : List Int} {runner dividend : Int} {l : List Pool} {a : Option Addr} {tn tc : Nat} {tv pv : Value} (h : ArgsAt (fun k => k < W.heap.size) W bx p truth runner dividend l a tn tc tv pv) (hbx : bx < W.heap.size) : Asks 25 bx W ((((boardR p).1.length : Int) :: (boardR p).1) ++ [(boardR p).2]) [] := by
  intro w hb hB hhb hH hI
  have hA := h.keep (Only.below hB) (fun k hk hn => by omega) (by omega)
  obtain ⟨x0, x1, x2, x3, x4, x5, x6, x7, x8⟩ := hA.cells
  have hC := Board_any _ _ p w hA.pool
  obtain ⟨R, hR⟩ : ∃ x, boardR p = x := ⟨_, rfl⟩
  have HR := Lib.hid hR
  have hsm := board_small p
  rw [hR] at hsm
  rw [hR] at hC ⊢
  clear hR
  obtain ⟨sv, hsv⟩ : ∃ n, w.heap.size = n := ⟨_, rfl⟩
  have HI := Lib.hid hI; clear hI hB hsv
  obtain ⟨t1, t2, t3, rfl⟩ : ∃ a n c, tv = .slice a n c := by obtain ⟨a, n, c, rfl, _⟩ := hA.truth; exact ⟨_, _, _, rfl⟩
  obtain ⟨q1, q2, q3, rfl⟩ : ∃ a n c, pv = .slice a n c := by obtain ⟨a, n, c, rfl, _⟩ := hA.pools; exact ⟨_, _, _, rfl⟩
  clear hA
  go_enter Try.func25, Try.ntmps25
  go_wp2_with fail
  refine hC.mono ?_
  rintro e w1 ⟨u, rfl, hF, P1⟩
  obtain ⟨u1, u2, u3, rfl⟩ : ∃ a n c, u = .slice a n c := by
    rcases hF.2 with ⟨rfl, _⟩ | ⟨g, cap, cur, rfl, _⟩ <;> exact ⟨_, _, _, rfl⟩
  have hP1 := P1.alloc (.cells #[.slice u1 u2 u3] 25)
  obtain ⟨hS0, hH0⟩ := step_pure hH hP1
  have hFB := (hF.lt)
  have hrow : (w1.alloc (.cells #[.slice u1 u2 u3] 25)).ownsRow w.heap.size 2 1 (.slice u1 u2 u3) R.1.length (R.1.map (.int .i64)) := World.ownsRow.alloc hF _
  have hnb : (w1.alloc (.cells #[.slice u1 u2 u3] 25)).heap[w1.heap.size]? = some (.cells #[.slice u1 u2 u3] 25 (0, 0)) := World.alloc_heap_new w1 _
  have hD : ∀ k, (Value.slice u1 u2 u3).ownBlock = some k → ¬ InHeap hb (w1.alloc (.cells #[.slice u1 u2 u3] 25)) k := fun k hk hi => by
    have h1 := (hFB k hk).1
    obtain ⟨vn, vs, hh, _, _⟩ := id hH
    have h2 := InHeap.lt hH (in_stay hP1 hh (fun f => f) hi)
    omega
  have hDn : ¬ InHeap hb (w1.alloc (.cells #[.slice u1 u2 u3] 25)) w1.heap.size := fun hi => by
    obtain ⟨vn, vs, hh, _, _⟩ := id hH
    have h2 := InHeap.lt hH (in_stay hP1 hh (fun f => f) hi)
    have := P1.size
    omega
  have hP1s := P1.size
  have HX := Lib.hid hFB; have HFl := Lib.hid hP1s
  clear hC P1 hF hFB
  go_wp2_with fail
  refine (putInt64s_any hb (.slice u1 u2 u3) _ [] [] _ [] _ hH0 hD (enc_row hrow) (by constructor <;> simp <;> omega)).mono ?_
  rintro e w2 ⟨rfl, hH1, hT1⟩
  have hS1 := hS0.trans hT1
  have hrow := owns_keep hrow hT1.only hD
  have hnb := hT1.only.heap hnb hDn
  have hlt : ∀ k, (Value.slice u1 u2 u3).ownBlock = some k → k < (w1.alloc (.cells #[.slice u1 u2 u3] 25)).heap.size := fun k hk => by have := (HX.out k hk).2; simp; omega
  have hD := hT1.apart hD hlt
  have hDn := hT1.apart (D := fun k => k = w1.heap.size) (fun k hk => by rw [hk]; exact hDn) (fun k hk => by rw [hk]; simp) _ rfl
  have hsz := hT1.only.size
  simp only [World.size_alloc] at hsz hlt
  go_wp2_with fail
  refine (putErrno_any hb (.int .i64 R.2) (fun _ => False) ([] ++ ((R.1.length : Int) :: R.1)) [] [R.2] [] _ hH1 (fun _ f => f.elim) (.num _ _) (by constructor <;> simp <;> omega)).mono ?_
  rintro e w3 ⟨rfl, hH2, hT2⟩
  have hS2 := hS1.trans hT2
  have hrow := owns_keep hrow hT2.only hD
  have hnb := hT2.only.heap hnb hDn
  have hD := hT2.apart hD (fun k hk => by have := hlt k hk; omega)
  have hDn := hT2.apart (D := fun k => k = w1.heap.size) (fun k hk => by rw [hk]; exact hDn) (fun k hk => by omega) _ rfl
  have hsz := Nat.le_trans hsz hT2.only.size
  have HS := Lib.hid hS2; have HH := Lib.hid hH2
  have HROW := Lib.hid hrow; have HNB := Lib.hid hnb; have HD := Lib.hid hD
  clear hrow hnb hD hDn hsz hlt
  go_wp2
  go_ret
  refine ⟨27, #[.pointer (some ⟨w1.heap.size, 0, none⟩)], fun k => (Value.slice u1 u2 u3).ownBlock = some k, rfl, enters_of Try.func27 (by kernel_rfl) rfl, by simpa using HH.out, HS.out, fun k hk => ⟨(HX.out k hk).1, HD.out k hk⟩, wipe_Board _ _ _ _ _ HROW.out (cell_of_row _ _ _ _ _ _ HNB.out)⟩

set_option maxHeartbeats 1000000 in
set_option maxRecDepth 100000 in
theorem ask_CheckRefute {W : World} {bx : Nat} {p : Pool} {truth : List Int} {runner dividend : Int} {l : List Pool} {a : Option Addr} {tn tc : Nat} {tv pv : Value} (h : ArgsAt (fun k => k < W.heap.size) W bx p truth runner dividend l a tn tc tv pv) (hbx : bx < W.heap.size) : Asks 28 bx W ([(checkRefuteR p runner dividend truth)]) [] := by
  intro w hb hB hhb hH hI
  have hA := h.keep (Only.below hB) (fun k hk hn => by omega) (by omega)
  obtain ⟨x0, x1, x2, x3, x4, x5, x6, x7, x8⟩ := hA.cells
  have hC := CheckRefute_any _ _ _ _ p truth runner dividend w hA.pool hA.truth
  obtain ⟨R, hR⟩ : ∃ x, checkRefuteR p runner dividend truth = x := ⟨_, rfl⟩
  have HR := Lib.hid hR
  rw [hR] at hC ⊢
  clear hR
  obtain ⟨sv, hsv⟩ : ∃ n, w.heap.size = n := ⟨_, rfl⟩
  have HI := Lib.hid hI; clear hI hB hsv
  obtain ⟨t1, t2, t3, rfl⟩ : ∃ a n c, tv = .slice a n c := by obtain ⟨a, n, c, rfl, _⟩ := hA.truth; exact ⟨_, _, _, rfl⟩
  obtain ⟨q1, q2, q3, rfl⟩ : ∃ a n c, pv = .slice a n c := by obtain ⟨a, n, c, rfl, _⟩ := hA.pools; exact ⟨_, _, _, rfl⟩
  clear hA
  go_enter Try.func28, Try.ntmps28
  go_wp2_with fail
  refine hC.mono ?_
  rintro e w1 ⟨rfl, P1⟩
  obtain ⟨hS0, hH0⟩ := step_pure hH P1
  clear hC P1
  go_wp2_with fail
  refine (putErrno_any hb (.int .i64 R) (fun _ => False) [] [] [R] [] _ hH0 (fun _ f => f.elim) (.num _ _) (by constructor <;> simp)).mono ?_
  rintro e w2 ⟨rfl, hH1, hT1⟩
  have hS1 := hS0.trans hT1
  have HS := Lib.hid hS1; have HH := Lib.hid hH1
  go_wp2
  go_ret
  exact ⟨9, #[], fun _ => False, rfl, enters_of Try.func9 (by kernel_rfl) rfl, by simpa using HH.out, HS.out, fun _ f => f.elim, nothing_any _⟩

set_option maxHeartbeats 1000000 in
set_option maxRecDepth 100000 in
theorem wipe_Refute (B nb : Nat) (v : Value) (l : List Int) (w : World) (h : w.ownsRow B 2 1 v l.length (l.map (.int .i64))) (hc : w.cell? ⟨nb, 0, none⟩ = some v) :
    Calls Try.prog 32 #[.pointer (some ⟨nb, 0, none⟩)] w fun e w' => e = .returned (.tuple #[]) ∧ Only (fun k => v.ownBlock = some k) w w' := by
  go_enter Try.func32, Try.ntmps32
  go_wp2_with fail
  refine (wipeInt64s_any B nb v l w h hc).mono ?_
  rintro e w2 ⟨rfl, hO⟩
  go_wp2
  go_end0
  exact ⟨rfl, hO⟩

set_option maxHeartbeats 1000000 in
set_option maxRecDepth 100000 in
theorem ask_Refute {W : World} {bx : Nat} {p : Pool} {truth : List Int} {runner dividend : Int} {l : List Pool} {a : Option Addr} {tn tc : Nat} {tv pv : Value} (h : ArgsAt (fun k => k < W.heap.size) W bx p truth runner dividend l a tn tc tv pv) (hbx : bx < W.heap.size) : Asks 30 bx W ((((refuteR p runner dividend).1.length : Int) :: (refuteR p runner dividend).1) ++ [(refuteR p runner dividend).2]) [] := by
  intro w hb hB hhb hH hI
  have hA := h.keep (Only.below hB) (fun k hk hn => by omega) (by omega)
  obtain ⟨x0, x1, x2, x3, x4, x5, x6, x7, x8⟩ := hA.cells
  have hC := Refute_any _ _ p runner dividend w hA.pool
  obtain ⟨R, hR⟩ : ∃ x, refuteR p runner dividend = x := ⟨_, rfl⟩
  have HR := Lib.hid hR
  have hsm := refute_small p runner dividend
  rw [hR] at hsm
  rw [hR] at hC ⊢
  clear hR
  obtain ⟨sv, hsv⟩ : ∃ n, w.heap.size = n := ⟨_, rfl⟩
  have HI := Lib.hid hI; clear hI hB hsv
  obtain ⟨t1, t2, t3, rfl⟩ : ∃ a n c, tv = .slice a n c := by obtain ⟨a, n, c, rfl, _⟩ := hA.truth; exact ⟨_, _, _, rfl⟩
  obtain ⟨q1, q2, q3, rfl⟩ : ∃ a n c, pv = .slice a n c := by obtain ⟨a, n, c, rfl, _⟩ := hA.pools; exact ⟨_, _, _, rfl⟩
  clear hA
  go_enter Try.func30, Try.ntmps30
  go_wp2_with fail
  refine hC.mono ?_
  rintro e w1 ⟨u, rfl, hF, P1⟩
  obtain ⟨u1, u2, u3, rfl⟩ : ∃ a n c, u = .slice a n c := by
    rcases hF.2 with ⟨rfl, _⟩ | ⟨g, cap, cur, rfl, _⟩ <;> exact ⟨_, _, _, rfl⟩
  have hP1 := P1.alloc (.cells #[.slice u1 u2 u3] 25)
  obtain ⟨hS0, hH0⟩ := step_pure hH hP1
  have hFB := (hF.lt)
  have hrow : (w1.alloc (.cells #[.slice u1 u2 u3] 25)).ownsRow w.heap.size 2 1 (.slice u1 u2 u3) R.1.length (R.1.map (.int .i64)) := World.ownsRow.alloc hF _
  have hnb : (w1.alloc (.cells #[.slice u1 u2 u3] 25)).heap[w1.heap.size]? = some (.cells #[.slice u1 u2 u3] 25 (0, 0)) := World.alloc_heap_new w1 _
  have hD : ∀ k, (Value.slice u1 u2 u3).ownBlock = some k → ¬ InHeap hb (w1.alloc (.cells #[.slice u1 u2 u3] 25)) k := fun k hk hi => by
    have h1 := (hFB k hk).1
    obtain ⟨vn, vs, hh, _, _⟩ := id hH
    have h2 := InHeap.lt hH (in_stay hP1 hh (fun f => f) hi)
    omega
  have hDn : ¬ InHeap hb (w1.alloc (.cells #[.slice u1 u2 u3] 25)) w1.heap.size := fun hi => by
    obtain ⟨vn, vs, hh, _, _⟩ := id hH
    have h2 := InHeap.lt hH (in_stay hP1 hh (fun f => f) hi)
    have := P1.size
    omega
  have hP1s := P1.size
  have HX := Lib.hid hFB; have HFl := Lib.hid hP1s
  clear hC P1 hF hFB
  go_wp2_with fail
  refine (putInt64s_any hb (.slice u1 u2 u3) _ [] [] _ [] _ hH0 hD (enc_row hrow) (by constructor <;> simp <;> omega)).mono ?_
  rintro e w2 ⟨rfl, hH1, hT1⟩
  have hS1 := hS0.trans hT1
  have hrow := owns_keep hrow hT1.only hD
  have hnb := hT1.only.heap hnb hDn
  have hlt : ∀ k, (Value.slice u1 u2 u3).ownBlock = some k → k < (w1.alloc (.cells #[.slice u1 u2 u3] 25)).heap.size := fun k hk => by have := (HX.out k hk).2; simp; omega
  have hD := hT1.apart hD hlt
  have hDn := hT1.apart (D := fun k => k = w1.heap.size) (fun k hk => by rw [hk]; exact hDn) (fun k hk => by rw [hk]; simp) _ rfl
  have hsz := hT1.only.size
  simp only [World.size_alloc] at hsz hlt
  go_wp2_with fail
  refine (putErrno_any hb (.int .i64 R.2) (fun _ => False) ([] ++ ((R.1.length : Int) :: R.1)) [] [R.2] [] _ hH1 (fun _ f => f.elim) (.num _ _) (by constructor <;> simp <;> omega)).mono ?_
  rintro e w3 ⟨rfl, hH2, hT2⟩
  have hS2 := hS1.trans hT2
  have hrow := owns_keep hrow hT2.only hD
  have hnb := hT2.only.heap hnb hDn
  have hD := hT2.apart hD (fun k hk => by have := hlt k hk; omega)
  have hDn := hT2.apart (D := fun k => k = w1.heap.size) (fun k hk => by rw [hk]; exact hDn) (fun k hk => by omega) _ rfl
  have hsz := Nat.le_trans hsz hT2.only.size
  have HS := Lib.hid hS2; have HH := Lib.hid hH2
  have HROW := Lib.hid hrow; have HNB := Lib.hid hnb; have HD := Lib.hid hD
  clear hrow hnb hD hDn hsz hlt
  go_wp2
  go_ret
  refine ⟨32, #[.pointer (some ⟨w1.heap.size, 0, none⟩)], fun k => (Value.slice u1 u2 u3).ownBlock = some k, rfl, enters_of Try.func32 (by kernel_rfl) rfl, by simpa using HH.out, HS.out, fun k hk => ⟨(HX.out k hk).1, HD.out k hk⟩, wipe_Refute _ _ _ _ _ HROW.out (cell_of_row _ _ _ _ _ _ HNB.out)⟩

set_option maxHeartbeats 1000000 in
set_option maxRecDepth 100000 in
theorem ask_Need {W : World} {bx : Nat} {p : Pool} {truth : List Int} {runner dividend : Int} {l : List Pool} {a : Option Addr} {tn tc : Nat} {tv pv : Value} (h : ArgsAt (fun k => k < W.heap.size) W bx p truth runner dividend l a tn tc tv pv) (hbx : bx < W.heap.size) : Asks 33 bx W ([(needR p runner dividend).1] ++ [(needR p runner dividend).2]) [] := by
  intro w hb hB hhb hH hI
  have hA := h.keep (Only.below hB) (fun k hk hn => by omega) (by omega)
  obtain ⟨x0, x1, x2, x3, x4, x5, x6, x7, x8⟩ := hA.cells
  have hC := Need_any _ _ p runner dividend w hA.pool
  obtain ⟨R, hR⟩ : ∃ x, needR p runner dividend = x := ⟨_, rfl⟩
  have HR := Lib.hid hR
  rw [hR] at hC ⊢
  clear hR
  obtain ⟨sv, hsv⟩ : ∃ n, w.heap.size = n := ⟨_, rfl⟩
  have HI := Lib.hid hI; clear hI hB hsv
  obtain ⟨t1, t2, t3, rfl⟩ : ∃ a n c, tv = .slice a n c := by obtain ⟨a, n, c, rfl, _⟩ := hA.truth; exact ⟨_, _, _, rfl⟩
  obtain ⟨q1, q2, q3, rfl⟩ : ∃ a n c, pv = .slice a n c := by obtain ⟨a, n, c, rfl, _⟩ := hA.pools; exact ⟨_, _, _, rfl⟩
  clear hA
  go_enter Try.func33, Try.ntmps33
  go_wp2_with fail
  refine hC.mono ?_
  rintro e w1 ⟨rfl, P1⟩
  obtain ⟨hS0, hH0⟩ := step_pure hH P1
  clear hC P1
  go_wp2_with fail
  refine (putInt64_any hb (.int .i64 R.1) (fun _ => False) [] [] [R.1] [] _ hH0 (fun _ f => f.elim) (.num _ _) (by constructor <;> simp)).mono ?_
  rintro e w2 ⟨rfl, hH1, hT1⟩
  have hS1 := hS0.trans hT1
  go_wp2_with fail
  refine (putErrno_any hb (.int .i64 R.2) (fun _ => False) ([] ++ [R.1]) [] [R.2] [] _ hH1 (fun _ f => f.elim) (.num _ _) (by constructor <;> simp)).mono ?_
  rintro e w3 ⟨rfl, hH2, hT2⟩
  have hS2 := hS1.trans hT2
  have HS := Lib.hid hS2; have HH := Lib.hid hH2
  go_wp2
  go_ret
  exact ⟨9, #[], fun _ => False, rfl, enters_of Try.func9 (by kernel_rfl) rfl, by simpa using HH.out, HS.out, fun _ f => f.elim, nothing_any _⟩

set_option maxHeartbeats 1000000 in
set_option maxRecDepth 100000 in
theorem ask_When {W : World} {bx : Nat} {p : Pool} {truth : List Int} {runner dividend : Int} {l : List Pool} {a : Option Addr} {tn tc : Nat} {tv pv : Value} (h : ArgsAt (fun k => k < W.heap.size) W bx p truth runner dividend l a tn tc tv pv) (hbx : bx < W.heap.size) : Asks 35 bx W ([(whenR l runner dividend).1] ++ [(whenR l runner dividend).2]) [] := by
  intro w hb hB hhb hH hI
  have hA := h.keep (Only.below hB) (fun k hk hn => by omega) (by omega)
  obtain ⟨x0, x1, x2, x3, x4, x5, x6, x7, x8⟩ := hA.cells
  have hC := When_any _ _ l runner dividend w hA.pools
  obtain ⟨R, hR⟩ : ∃ x, whenR l runner dividend = x := ⟨_, rfl⟩
  have HR := Lib.hid hR
  rw [hR] at hC ⊢
  clear hR
  obtain ⟨sv, hsv⟩ : ∃ n, w.heap.size = n := ⟨_, rfl⟩
  have HI := Lib.hid hI; clear hI hB hsv
  obtain ⟨t1, t2, t3, rfl⟩ : ∃ a n c, tv = .slice a n c := by obtain ⟨a, n, c, rfl, _⟩ := hA.truth; exact ⟨_, _, _, rfl⟩
  obtain ⟨q1, q2, q3, rfl⟩ : ∃ a n c, pv = .slice a n c := by obtain ⟨a, n, c, rfl, _⟩ := hA.pools; exact ⟨_, _, _, rfl⟩
  clear hA
  go_enter Try.func35, Try.ntmps35
  go_wp2_with fail
  refine hC.mono ?_
  rintro e w1 ⟨rfl, P1⟩
  obtain ⟨hS0, hH0⟩ := step_pure hH P1
  clear hC P1
  go_wp2_with fail
  refine (putInt_any hb (.int .i64 R.1) (fun _ => False) [] [] [R.1] [] _ hH0 (fun _ f => f.elim) (.num _ _) (by constructor <;> simp)).mono ?_
  rintro e w2 ⟨rfl, hH1, hT1⟩
  have hS1 := hS0.trans hT1
  go_wp2_with fail
  refine (putErrno_any hb (.int .i64 R.2) (fun _ => False) ([] ++ [R.1]) [] [R.2] [] _ hH1 (fun _ f => f.elim) (.num _ _) (by constructor <;> simp)).mono ?_
  rintro e w3 ⟨rfl, hH2, hT2⟩
  have hS2 := hS1.trans hT2
  have HS := Lib.hid hS2; have HH := Lib.hid hH2
  go_wp2
  go_ret
  exact ⟨9, #[], fun _ => False, rfl, enters_of Try.func9 (by kernel_rfl) rfl, by simpa using HH.out, HS.out, fun _ f => f.elim, nothing_any _⟩
end Go.Proofs.Ytngkmfddamaegaa
