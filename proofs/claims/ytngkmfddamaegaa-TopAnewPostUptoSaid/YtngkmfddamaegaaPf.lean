/-
  The greatest dividend, and the truth of a total.
-/
import Derived.Test.YtngkmfddamaegaaPe
import Derived.Maps.AppendAt
import Derived.RangeFuncBox
import Derived.Laws.OwnMore
import Derived.WalkMore
import Derived.Laws.Cover3
import Derived.Deep.AppendLies
namespace Go.Proofs.Ytngkmfddamaegaa
open Go.RowKit

/-- The search for the greatest dividend that is safe. -/
def searchW (ok : Int → Bool) : Nat → Int → Int → Int
  | 0, lo, _ => lo
  | n + 1, lo, hi => if lo < hi then (if ok ((lo + hi + 1) / 2) then searchW ok n ((lo + hi + 1) / 2) hi else searchW ok n lo ((lo + hi + 1) / 2 - 1)) else lo

theorem searchW_le (ok : Int → Bool) : ∀ (n m : Nat) (lo hi : Int), (hi - lo).toNat ≤ n → (hi - lo).toNat ≤ m → 0 ≤ lo → searchW ok n lo hi = searchW ok m lo hi := by
  have stop : ∀ (m : Nat) (lo hi : Int), ¬ lo < hi → searchW ok m lo hi = lo := fun m lo hi h => by cases m <;> simp [searchW, h]
  intro n
  induction n with
  | zero => intro m lo hi h1 h2 h0; rw [stop 0 lo hi (by omega), stop m lo hi (by omega)]
  | succ n ih =>
    intro m lo hi h1 h2 h0
    by_cases h : lo < hi
    · obtain ⟨m, rfl⟩ : ∃ k, m = k + 1 := ⟨m - 1, by omega⟩
      simp only [searchW, if_pos h]
      split
      · exact ih _ _ _ (by omega) (by omega) (by omega)
      · exact ih _ _ _ (by omega) (by omega) (by omega)
    · rw [stop _ _ _ h, stop _ _ _ h]

theorem search_step (ok : Int → Bool) (l h mid : Int) (hm : (l + h + 1) / 2 = mid) (hl : 0 ≤ l) (hh : h ≤ 100000) (hlt : l < h) :
    (ok mid = true → searchW ok 100000 l h = searchW ok 100000 mid h) ∧ (ok mid = false → searchW ok 100000 l h = searchW ok 100000 l (mid - 1)) := by
  have key : ∀ n, searchW ok (n + 1) l h = if ok mid then searchW ok n mid h else searchW ok n l (mid - 1) := fun n => by
    simp only [searchW, if_pos hlt, hm]
  constructor
  · intro hk
    refine (key 99999).trans ?_
    rw [if_pos hk]
    exact searchW_le ok _ _ _ _ (by omega) (by omega) (by omega)
  · intro hk
    refine (key 99999).trans ?_
    rw [hk]
    exact searchW_le ok _ _ _ _ (by omega) (by omega) (by omega)

def okW (p : Pool) (r : Nat) (mid : Int) : Bool := decide (0 ≤ worstLeft p r (wrap64 (mid * p.step)))
def greatestW (p : Pool) (r : Nat) : Int := wrap64 (searchW (okW p r) 100000 0 ((100000 : Int).tdiv p.step) * p.step)

theorem deskStep {b : Nat} {p : Pool} {r : Nat} {w : World} (h : Desk b p r w) : w.cell? ⟨b, 4, none⟩ = some (.int .i64 p.step) := by
  obtain ⟨B, a, cap, tk, m, hv, _, _, hd, hm⟩ := h.desk
  exact cell_of_row _ _ _ _ _ _ hd

set_option maxHeartbeats 1000000 in
set_option maxRecDepth 100000 in
theorem greatest_any {b : Nat} {p : Pool} {r : Nat} {w : World} (h : Desk b p r w) (hs : 1 ≤ p.step) (hs2 : p.step ≤ 100) :
    Calls Try.prog 58 #[.pointer (some ⟨b, 0, none⟩)] w fun e w' => e = .returned (.int .i64 (greatestW p r)) ∧ Pure w w' := by
  have d4 := deskStep h
  unfold greatestW
  have hq1 : 0 ≤ (100000 : Int).tdiv p.step := by rw [Int.tdiv_eq_ediv_of_nonneg (by omega)]; exact Int.ediv_nonneg (by omega) (by omega)
  have hq2 : (100000 : Int).tdiv p.step ≤ 100000 := by rw [Int.tdiv_eq_ediv_of_nonneg (by omega)]; exact Int.ediv_le_self _ (by omega)
  have hne : p.step ≠ 0 := by omega
  obtain ⟨T, hT⟩ : ∃ T, searchW (okW p r) 100000 0 ((100000 : Int).tdiv p.step) = T := ⟨_, rfl⟩
  rw [hT]
  have HT := Lib.hid hT; clear hT
  go_enter Try.func58, Try.ntmps58
  go_wp2
  go_step3
  go_wp2
  go_quiet (fail)
  go_wp2
  go_step3
  go_wp2
  have HP := Lib.hid ((Only.refl (fun _ => False) w).drewN nq)
  have HD := Lib.hid h; clear h
  have HQ1 := Lib.hid hq1; have HQ2 := Lib.hid hq2; clear hq1 hq2
  go_loopw [3, 4] (fun lo hi wr => ∃ l h : Int, lo = .int .i64 l ∧ hi = .int .i64 h ∧ 0 ≤ l ∧ l ≤ 100000 ∧ 0 ≤ h ∧ h ≤ 100000 ∧ searchW (okW p r) 100000 l h = T ∧ Pure w wr) (fun lo hi _ => (intOf hi - intOf lo).toNat)
  case atStart => exact ⟨0, _, rfl, rfl, by omega, by omega, HQ1.out, HQ2.out, HT.out, HP.out⟩
  case round =>
    obtain ⟨l, h, rfl, rfl, hl0, hl1, hh0, hh1, hT, hP⟩ := hrel
    have d4' := hP.cell d4 (fun f => f)
    by_cases hlt : l < h
    · have hT2 := search_step (okW p r) l h _ rfl hl0 hh1 hlt
      rw [hT] at hT2
      have HS := Lib.hid hT2; clear hT2 hT
      have hmb : l < (l + h + 1) / 2 ∧ (l + h + 1) / 2 ≤ h := by omega
      have hC := safe_any (HD.out.pure hP) (wrap64 ((l + h + 1) / 2 * p.step))
      have HPP := Lib.hid hP; clear hP
      go_wp2_with fail
      refine hC.mono ?_
      rintro e w1 ⟨rfl, hP1⟩
      have HP1 := Lib.hid (HPP.out.trans hP1); clear hP1
      by_cases hok : okW p r ((l + h + 1) / 2) = true
      · have hok' : decide (0 ≤ worstLeft p r (wrap64 ((l + h + 1) / 2 * p.step))) = true := hok
        rw [hok']
        go_wp2
        go_roundw
        case rel => exact ⟨_, _, rfl, rfl, by omega, by omega, by omega, by omega, (HS.out.1 hok).symm, HP1.out⟩
        case measure => simp [intOf]; omega
      · have hok' : decide (0 ≤ worstLeft p r (wrap64 ((l + h + 1) / 2 * p.step))) = false := by simpa [okW] using hok
        rw [hok']
        go_wp2
        go_roundw
        case rel => exact ⟨_, _, rfl, by go_num, by omega, by omega, by omega, by omega, (HS.out.2 (by simpa using hok)).symm, HP1.out⟩
        case measure => simp [intOf]; omega
    · have hTl : T = l := by rw [← hT]; exact (show ∀ n, searchW (okW p r) n l h = l from fun n => by cases n <;> simp [searchW, hlt]) _
      subst hTl
      have HPP := Lib.hid hP; clear hP
      go_wp2
      go_ret
      exact ⟨rfl, HPP.out⟩

set_option maxHeartbeats 1000000 in
set_option maxRecDepth 100000 in
/-- slices.Clone of a list that is not nil. -/
theorem clone_any (D : Nat → Prop) (b off cap : Nat) (l : List Int) (w : World) (hv : Ints D w (.slice (some ⟨b, off, none⟩) l.length cap) l) (hl : l.length ≤ 1048576) :
    Calls Try.prog 75 #[.slice (some ⟨b, off, none⟩) l.length cap] w fun e w' => ∃ v, e = .returned v ∧ w'.ownsRow w.heap.size 2 1 v l.length (l.map (.int .i64)) ∧ Pure w w' := by
  obtain ⟨a, len, cap', he, hlen, _, hm, hc⟩ := hv
  obtain ⟨i0, hi, hz0, hz1, hz2⟩ := info_parts info2
  simp only [Value.slice.injEq] at he
  obtain ⟨rfl, rfl, rfl⟩ := he
  have hown := World.ownsRow_lit (base := w.heap.size) (e := 2) (size := 1) w #[] 0 (Nat.le_refl _) (by decide) rfl
  have hnew : ∀ j u, (l.map (Value.int .i64))[j]? = some u → (w.alloc (.cells #[] 2)).cell? ((⟨b, off, none⟩ : Addr).add j) = some u := fun j u hj => by
    rw [List.getElem?_map] at hj
    obtain ⟨x, hx, rfl⟩ := Option.map_eq_some_iff.1 hj
    have hjl : j < l.length := (List.getElem?_eq_some_iff.1 hx).1
    obtain ⟨b', off', hb', _, hcell⟩ := hc j hjl
    simp only [Option.some.injEq, Addr.mk.injEq, and_true] at hb'
    obtain ⟨rfl, rfl⟩ := hb'
    have h2 := ((Only.refl (fun _ => False) w).alloc (.cells #[] 2)).cell hcell (fun f => f)
    have hxe : l[j]?.getD 0 = x := by simp [hx]
    rw [hxe] at h2
    have ha : (⟨b, off, none⟩ : Addr).add j = ⟨b, off + j, none⟩ := by unfold Addr.add; split <;> simp_all
    rw [ha]; exact h2
  have HN := Lib.hid hnew; clear hnew hc
  have heq : ∀ w : World, (binOp .eql 25 (.slice (some ⟨b, off, none⟩) l.length cap) (.slice none 0 0)).run Try.prog w = .ok (.bool false) w := fun w => by
    simp only [binOp, Sem.run_bind, run_equal_slice_nil w 25 2 _ _ _ Try.underlying25]
    rfl
  go_enter Try.func75, Try.ntmps75
  go_wp2_with (at_builtin; refine wpList_append_own_at _ rfl _ _ 25 rfl w.heap.size 2 i0 (.int .i64 0) 1 8 Try.underlying25 hi hz0 hz1 hz2 rfl (by decide) _ _ _ rfl hown ⟨b, off, none⟩ l.length cap (l.map (.int .i64)) rfl ?c1 HN.out ?c2 ?c3 ?c4 ?c5 ?_)
  case c2 => exact fun _ _ => rfl
  case c3 => unfold maxLen; omega
  case c4 => omega
  rintro v' w' hown' hg _ _
  go_wp2
  go_ret
  exact ⟨v', rfl, hown', ((Only.refl _ w).alloc (.cells #[] 2)).grown hg (fun k e => by simp [Value.ownBlock] at e; omega)⟩


theorem owns_ints {w : World} {B g n cap : Nat} {l : List Int} (h : w.ownsRow B 2 1 (.slice (some ⟨g, 0, none⟩) n cap) n (l.map (.int .i64))) : Ints (fun _ => True) w (.slice (some ⟨g, 0, none⟩) n cap) l := by
  have hl : l.length = n := by simpa using h.1
  refine ⟨_, n, cap, rfl, hl.symm, ?_, ?_, fun i hi => ⟨g, 0, rfl, trivial, ?_⟩⟩
  · rcases h.2 with ⟨h', _⟩ | ⟨g', cap', cur, h', _, _, hle, _⟩
    · simp at h'
    · simp only [Value.slice.injEq] at h'; obtain ⟨_, _, rfl⟩ := h'; exact hle
  · rcases h.2 with ⟨h', _⟩ | ⟨g', cap', cur, h', _, _, hle, hm, _⟩
    · simp at h'
    · unfold maxLen at hm; omega
  · rw [Nat.zero_add, h.cellAt i (by omega)]; simp [hl, hi]

theorem owns_le {w : World} {B B' : Nat} {e : TypeId} {size n : Nat} {v : Value} {xs : List Value} (h : w.ownsRow B e size v n xs) (hb : B' ≤ B) : w.ownsRow B' e size v n xs :=
  ⟨h.1, h.2.imp id fun ⟨g, cap, cur, h1, h2, h3⟩ => ⟨g, cap, cur, h1, Nat.le_trans hb h2, h3⟩⟩

def truthStep (p : Pool) (r : Nat) (s : List Int × Int) (i : Nat) : List Int × Int :=
  if i = r then s else (s.1.set i (wrap64 (s.1[i]?.getD 0 + min s.2 (wrap64 ((his p)[i]?.getD 0 - s.1[i]?.getD 0)))), wrap64 (s.2 - min s.2 (wrap64 ((his p)[i]?.getD 0 - s.1[i]?.getD 0))))
def truth0 (p : Pool) (r : Nat) (t : Tot) : List Int := (p.tickets.map (·.1)).set r t.2.1
def truthTo (p : Pool) (r : Nat) (t : Tot) (k : Nat) : List Int × Int := (List.range k).foldl (truthStep p r) (truth0 p r t, wrap64 (t.1 - sumW (truth0 p r t)))
def truthW (p : Pool) (r : Nat) (t : Tot) : List Int := (truthTo p r t p.tickets.length).1
theorem truthTo_succ (p : Pool) (r : Nat) (t : Tot) (k : Nat) : truthTo p r t (k + 1) = truthStep p r (truthTo p r t k) k := by simp [truthTo, List.range_succ, List.foldl_append]
theorem truthTo_len (p : Pool) (r : Nat) (t : Tot) (k : Nat) : (truthTo p r t k).1.length = p.tickets.length := by
  induction k with
  | zero => simp [truthTo, truth0]
  | succ k ih => rw [truthTo_succ]; unfold truthStep; split <;> simp [ih]

set_option maxHeartbeats 1000000 in
set_option maxRecDepth 100000 in
theorem truth_any {b : Nat} {p : Pool} {r : Nat} {w : World} (h : Desk b p r w) (t : Tot) (hr : r < p.tickets.length) :
    Calls Try.prog 51 #[.pointer (some ⟨b, 0, none⟩), totV t] w fun e w' => ∃ v, e = .returned v ∧ w'.ownsRow w.heap.size 2 1 v p.tickets.length ((truthW p r t).map (.int .i64)) ∧ Pure w w' := by
  have hP0 : Pure w (w.alloc (.cells #[.int .i64 t.1, .int .i64 t.2.1, .int .i64 t.2.2] 79)) := (Only.refl _ w).alloc _
  have h1 := h.pure hP0
  obtain ⟨_, _, _, tk', m', _, _, _, hdw, _⟩ := h.desk
  obtain ⟨B, a, cap, tk, m, hv, _, _, hd, hm⟩ := h1.desk
  have hlen := h.len
  have hln : (los p).length = 8 := pad8_len (by simpa using hlen)
  have hhn : (his p).length = 8 := pad8_len (by simpa using hlen)
  simp only [Value.agg.injEq, Array.mk.injEq, List.cons.injEq, and_true] at hv
  obtain rfl := hv
  unfold totV
  have d0 : (w.alloc (.cells #[.int .i64 t.1, .int .i64 t.2.1, .int .i64 t.2.2] 79)).cell? ⟨b, 0, none⟩ = some (.slice a p.tickets.length cap) := cell_of_row _ _ _ _ _ _ hd
  have hI : Ints (fun _ => True) (w.alloc (.cells #[.int .i64 t.1, .int .i64 t.2.1, .int .i64 t.2.2] 79)) (.slice (some ⟨b, 6, none⟩) (p.tickets.map (·.1)).length 8) (p.tickets.map (·.1)) :=
    ⟨_, _, 8, rfl, rfl, by simpa using hlen, by simp; omega, fun i hi => ⟨_, 6, rfl, trivial, by
      rw [cell_of_row _ _ _ _ _ _ hd, deskC_lo hln i (by simp at hi; omega)]
      simp only [los, pad8]
      rw [List.getElem?_append_left hi]⟩⟩
  have hC := fun g => clone_any _ b 6 8 _ _ (hI.drewN g) (by simp; omega)
  simp only [List.length_map] at hC
  have HC := Lib.hid hC; clear hC
  have hsl : ∀ w : World, (Instr.sliceAt 108 (.pointer (some ⟨b, 6, none⟩)) none (some (.int .i64 p.tickets.length)) none).run Try.prog w = .ok (.slice (some ⟨b, 6, none⟩) p.tickets.length 8) w := fun w => by
    have hal : Try.prog.arrayLen 108 = 8 := by kernel_rfl
    have := run_sliceAt_array_h (P := Try.prog) w 108 ⟨b, 6, none⟩ Try.underlying108 .i64 p.tickets.length (by omega) (by rw [hal]; omega)
    simpa [go_sem, hal, slicedAt, Addr.add] using this
  have HP0 := Lib.hid hP0; clear hP0
  have HD := Lib.hid hd; clear hd hm
  go_enter Try.func51, Try.ntmps51
  go_wp2_with fail
  refine wp_region_drew_tail 10 (by kernel_rfl) (by kernel_rfl) ?_
  simp only [List.take_succ_cons, List.take_zero, List.drop_succ_cons, List.drop_zero]
  repeat (go_big_quiet_step (fail))
  refine wpQuiet_nil ?_
  rintro w' ⟨g, rfl⟩
  go_wp2_with fail
  refine (HC.out g).mono ?_
  rintro e w1 ⟨v, rfl, hown, hP1⟩
  obtain ⟨G, cp, rfl, hG1, hG2⟩ := hown.form (by omega)
  have hPd : Pure (w.alloc (.cells #[.int .i64 t.1, .int .i64 t.2.1, .int .i64 t.2.2] 79)) w1 := ((Only.refl _ _).drewN g).trans hP1
  have hbox := hPd.heap (World.alloc_heap_new w (.cells #[.int .i64 t.1, .int .i64 t.2.1, .int .i64 t.2.2] 79)) (fun f => f)
  have hd1 := hPd.heap HD.out (fun f => f)
  have x0 : w1.cell? ⟨w.heap.size, 0, none⟩ = some (.int .i64 t.1) := cell_of_row _ _ _ _ _ _ hbox
  have x1 : w1.cell? ⟨w.heap.size, 1, none⟩ = some (.int .i64 t.2.1) := cell_of_row _ _ _ _ _ _ hbox
  have d5 : w1.cell? ⟨b, 5, none⟩ = some (.int .i64 r) := cell_of_row _ _ _ _ _ _ hd1
  have fz := hown.frozenAt r
  have gz := hown.cellAt r (by omega)
  obtain ⟨lr, hlr⟩ : ∃ lr, ((p.tickets.map (·.1)).map (Value.int .i64))[r]? = some (.int .i64 lr) := ⟨(p.tickets[r]).1, by simp [hr]⟩
  rw [hlr] at gz
  have hG1' : w.heap.size + 1 ≤ G := by
    have h' : (w.alloc (.cells #[.int .i64 t.1, .int .i64 t.2.1, .int .i64 t.2.2] 79)).heap.size ≤ G := hG1
    rwa [World.size_alloc] at h'
  have hst := hown.stored r (.int .i64 t.2.1)
  have hrow : (w1.setCell ⟨G, r, none⟩ (.int .i64 t.2.1)).drew.ownsRow w.heap.size 2 1 (.slice (some ⟨G, 0, none⟩) p.tickets.length cp) p.tickets.length ((truth0 p r t).map (.int .i64)) := by
    have h2 := hst.1
    rw [← List.map_set] at h2
    exact (owns_le h2 (show w.heap.size ≤ (w.alloc (.cells #[.int .i64 t.1, .int .i64 t.2.1, .int .i64 t.2.2] 79)).heap.size by simp)).drew
  have hPw : Pure w (w1.setCell ⟨G, r, none⟩ (.int .i64 t.2.1)).drew := ((HP0.out.trans hPd).setCell (.inr (by show w.heap.size ≤ G; omega)) _).drew
  have x0' : (w1.setCell ⟨G, r, none⟩ (.int .i64 t.2.1)).drew.cell? ⟨w.heap.size, 0, none⟩ = some (.int .i64 t.1) := by
    rw [cell_of_row _ _ _ _ _ _ (show (w1.setCell ⟨G, r, none⟩ (.int .i64 t.2.1)).drew.heap[w.heap.size]? = _ from (Below.heap_setCell w1 ⟨G, r, none⟩ _ w.heap.size (by show w.heap.size ≠ G; omega)).trans hbox)]; rfl
  have hIs := owns_ints hrow
  have HO := Lib.hid hrow; have HW := Lib.hid hPw
  have HPd := Lib.hid (HP0.out.trans hPd)
  have HD1 := Lib.hid hd1
  clear hown hP1 hPd hbox hd1 hlr hst hrow hPw
  go_wp2_with fail
  go_region
  go_wp2_with fail
  clear x0 x1
  generalize (w1.setCell ⟨G, r, none⟩ (.int .i64 t.2.1)).drew = w2 at HO HW x0' hIs ⊢
  clear fz gz d5 HPd HD1
  go_quiet (exact sum_quiet hIs)
  generalize nq = k2
  have HO2 := Lib.hid (show (w2.drewN k2).ownsRow w.heap.size 2 1 (.slice (some ⟨G, 0, none⟩) p.tickets.length cp) p.tickets.length ((truth0 p r t).map (.int .i64)) from HO.out.kept (pure_grown ((Only.refl _ w2).drewN k2)) (.inr (by simp [Value.ownBlock])))
  have HW2 := Lib.hid (HW.out.drewN k2)
  go_wp2_with fail
  go_loopw [35, 6] (fun i lf wr => ∃ k : Nat, k ≤ p.tickets.length ∧ i = .int .i64 k ∧ lf = .int .i64 (truthTo p r t k).2 ∧
      wr.ownsRow w.heap.size 2 1 (.slice (some ⟨G, 0, none⟩) p.tickets.length cp) p.tickets.length ((truthTo p r t k).1.map (.int .i64)) ∧ Pure w wr) (fun i _ _ => p.tickets.length - (intOf i).toNat)
  case atStart => exact ⟨0, Nat.zero_le _, rfl, rfl, HO2.out, HW2.out⟩
  case round =>
    clear HO HW HO2 HW2 hIs x0'
    obtain ⟨k, hk, rfl, rfl, hrow, hP⟩ := hrel
    by_cases hlt : k < p.tickets.length
    · have hdr := hP.heap hdw (fun f => f)
      obtain ⟨hv, hhv⟩ : ∃ x, (his p)[k]?.getD 0 = x := ⟨_, rfl⟩
      obtain ⟨ov, hov⟩ : ∃ x, (truthTo p r t k).1[k]?.getD 0 = x := ⟨_, rfl⟩
      have d5 : wr.cell? ⟨b, 5, none⟩ = some (.int .i64 r) := cell_of_row _ _ _ _ _ _ hdr
      have d14 : wr.cell? ⟨b, 14 + k, none⟩ = some (.int .i64 hv) := by rw [cell_of_row _ _ _ _ _ _ hdr, ← hhv]; exact deskC_hi hln hhn k (by omega)
      have gz := hrow.cellAt k (by omega)
      have gf := hrow.frozenAt k
      have hTl := truthTo_len p r t k
      have ho : ((truthTo p r t k).1.map (Value.int .i64))[k]? = some (.int .i64 ov) := by rw [← hov]; simp [hTl, hlt]
      rw [ho] at gz
      have hsucc := truthTo_succ p r t k
      by_cases hkr : k = r
      · rw [truthStep, if_pos hkr] at hsucc
        have HS := Lib.hid (show wr.ownsRow w.heap.size 2 1 (.slice (some ⟨G, 0, none⟩) p.tickets.length cp) p.tickets.length ((truthTo p r t (k + 1)).1.map (.int .i64)) ∧ (truthTo p r t (k + 1)).2 = (truthTo p r t k).2 by rw [hsucc]; exact ⟨hrow, rfl⟩)
        have HPP := Lib.hid hP
        clear hrow hP ho hTl hdr hln hhn hsucc hhv hov
        subst hkr
        go_wp2
        go_roundw
        case rel => exact ⟨k + 1, by omega, by go_num, by rw [HS.out.2], HS.out.1, HPP.out⟩
        case measure => simp [intOf]; omega
      · rw [truthStep, if_neg hkr, hhv, hov] at hsucc
        have hkr' : (k : Int) ≠ r := by omega
        have hst : ∀ n, ((wr.drewN n).setCell ⟨G, k, none⟩ (.int .i64 (wrap64 (ov + min (truthTo p r t k).2 (wrap64 (hv - ov)))))).ownsRow w.heap.size 2 1 (.slice (some ⟨G, 0, none⟩) p.tickets.length cp) p.tickets.length ((truthTo p r t (k + 1)).1.map (.int .i64)) ∧
            Pure w ((wr.drewN n).setCell ⟨G, k, none⟩ (.int .i64 (wrap64 (ov + min (truthTo p r t k).2 (wrap64 (hv - ov)))))) := fun n => by
          rw [hsucc, List.map_set]
          exact ⟨((hrow.kept (pure_grown ((Only.refl _ wr).drewN n)) (.inr (by simp [Value.ownBlock]))).stored k _).1, (hP.drewN n).setCell (.inr (by show w.heap.size ≤ G; omega)) _⟩
        have hlf : (truthTo p r t (k + 1)).2 = wrap64 ((truthTo p r t k).2 - min (truthTo p r t k).2 (wrap64 (hv - ov))) := by rw [hsucc]
        clear hrow hP ho hTl hdr hln hhn hsucc hhv hov hkr
        generalize (truthTo p r t k).2 = lf at hst hlf ⊢
        by_cases q : lf ≤ wrap64 (hv - ov)
        · rw [Int.min_eq_left q] at hst hlf
          have HST := Lib.hid hst; have HLF := Lib.hid hlf; clear hst hlf
          go_wp2_with fail
          go_quiet (fail)
          go_wp2
          go_roundw
          case rel => exact ⟨k + 1, by omega, by go_num, by rw [HLF.out, Int.sub_self, show wrap64 0 = 0 from by unfold wrap64; omega], (HST.out _).1, (HST.out _).2⟩
          case measure => simp [intOf]; omega
        · have q' : wrap64 (hv - ov) < lf := by omega
          rw [Int.min_eq_right (Int.le_of_lt q')] at hst hlf
          have HST := Lib.hid hst; have HLF := Lib.hid hlf; clear hst hlf q
          go_wp2_with fail
          go_quiet (fail)
          go_wp2
          go_roundw
          case rel => exact ⟨k + 1, by omega, by go_num, by rw [HLF.out], (HST.out _).1, (HST.out _).2⟩
          case measure => simp [intOf]; omega
    · obtain rfl : k = p.tickets.length := by omega
      have HR := Lib.hid hrow; have HPP := Lib.hid hP; clear hrow hP
      go_wp2
      go_ret
      exact ⟨_, rfl, HR.out, HPP.out⟩
end Go.Proofs.Ytngkmfddamaegaa
