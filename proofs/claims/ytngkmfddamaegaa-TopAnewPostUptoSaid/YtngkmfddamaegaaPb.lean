/-
  The desk of package post: sums, nets, and the map of nets.
-/
import Derived.Test.YtngkmfddamaegaaPa
import Derived.Test.YtngkmfddamaegaaMaps
import Derived.Test.YtngkmfddamaegaaRegion
namespace Go.Proofs.Ytngkmfddamaegaa
open Go.RowKit

def billV (x : Int) : Value := .agg #[.int .i64 x]
theorem bill_law : KeyLaw Try.prog 113 billV where
  inj := fun a b h => by simpa [billV] using h
  check := fun em x w => by kernel_rfl
  eq := fun x y w => by
    show (Op.equalIn 10000 113 (.agg #[.int .i64 x]) (.agg #[.int .i64 y])).run Try.prog w = _
    by_cases h : x = y
    · subst h; simp [go_sem]
    · simp [go_sem, h]
  now := ⟨_, Try.underlying113, .inl (fun x y => rfl)⟩
  bits := fun x => by simp [billV, Instr.sameBits]

def sumW (l : List Int) : Int := l.foldl (fun a x => wrap64 (a + x)) 0
theorem sumW_take (zs : List Int) (k : Nat) (h : k < zs.length) : sumW (zs.take (k + 1)) = wrap64 (sumW (zs.take k) + zs[k]?.getD 0) := by
  unfold sumW
  rw [List.take_add_one, List.getElem?_eq_getElem h, List.foldl_append]; simp

set_option maxHeartbeats 400000 in
theorem sum_any (D : Nat → Prop) (v : Value) (l : List Int) (w : World) (hv : Ints D w v l) :
    Calls Try.prog 47 #[v] w fun e w' => e = .returned (.int .i64 (sumW l)) ∧ w = w' := by
  obtain ⟨a, len, cap, rfl, hlen, _, hm, hc⟩ := hv
  have HL := Lib.hid hlen; clear hlen
  have HC := Lib.hid hc; clear hc
  go_enter Try.func47, Try.ntmps47
  go_wp2
  go_loop [3, 8] (fun t i => ∃ k : Nat, k ≤ len ∧ i = .int .i64 k ∧ t = .int .i64 (sumW (l.take k))) (fun _ i => len - (intOf i).toNat)
  case atStart => exact ⟨0, Nat.zero_le _, rfl, rfl⟩
  case round =>
    obtain ⟨k, hk, rfl, rfl⟩ := hrel
    by_cases hlt : k < len
    · obtain ⟨b, off, rfl, _, hcell⟩ := HC.out k hlt
      have hs := Lib.hid (sumW_take l k (by rw [← HL.out]; exact hlt))
      go_wp2
      go_round
      case rel => exact ⟨k + 1, by omega, by go_num, by rw [hs.out]⟩
      case measure => simp [intOf]; omega
    · go_wp2
      go_ret
      refine ⟨?_, rfl⟩
      rw [List.take_of_length_le (by rw [← HL.out]; omega)]
      rfl

def netW (p : Pool) (all : Int) : Int := wrap64 (wrap64 (wrap64 (100 * all) - wrap64 (wrap64 ((wrap64 (100 * all)).tdiv p.per) * p.pence)) - p.keep)

set_option maxHeartbeats 400000 in
theorem net_any (tk : Value) (p : Pool) (all : Int) (w : World) (hp : 1 ≤ p.per) :
    Calls Try.prog 46 #[.agg #[tk, .int .i64 p.per, .int .i64 p.pence, .int .i64 p.keep, .int .i64 p.step], .int .i64 all] w fun e w' => e = .returned (.int .i64 (netW p all)) ∧ Pure w w' := by
  go_enter Try.func46, Try.ntmps46
  go_wp2
  go_quiet (fail)
  go_wp2
  go_ret
  exact ⟨rfl, ((Only.refl _ w).alloc _).drewN _⟩

/-- 'clear(s)' of a row whose cells hold the zero value already. -/
theorem run_clear_zero {P : Program} (w : World) (t e ty : TypeId) (z : Value) (ht : P.underlying t = some (.slice e)) (hv : (zeroValue e).run P w = .ok z w) (hz : z.cells = #[z]) (h1 : z.oneCell' = true)
    (g o n c : Nat) (cur : Array Value) (te : TypeId) (hg : w.heap[g]? = some (.cells cur te (0, 0))) (hn : 0 < n) (hfit : o + n ≤ cur.size) (hcur : (cur.toList.take o ++ List.replicate n z ++ cur.toList.drop (o + n)).toArray = cur) :
    (Builtin.clear_ #[t] ty #[.slice (some ⟨g, o, none⟩) n c]).run P w = .ok (.tuple #[]) w := by
  have hzc : (Builtin.zeroCells z.cells n).toList = List.replicate n z := by
    rw [hz]
    simp [Builtin.zeroCells]
    apply List.ext_getElem
    · simp
    · intro i h1 h2
      simp [Nat.mod_one]
  have hst := run_storeCells_at P g o te (List.replicate n z) 0 cur w hg (by simpa using hfit) (by intro v hv'; rw [List.eq_of_mem_replicate hv']; exact h1)
  simp only [Nat.add_zero, List.length_replicate] at hst
  rw [hcur, setRow_self w g cur te _ hg] at hst
  obtain ⟨m, rfl⟩ : ∃ m, n = m + 1 := ⟨n - 1, by omega⟩
  simp [Builtin.clear_, run_underlying ht, hv, hzc, hst]

/-- The cells of a desk. -/
def deskC (tk : Value) (p : Pool) (r : Int) (lo hi : List Int) (m : Nat) : Array Value :=
  ([tk, Value.int .i64 p.per, Value.int .i64 p.pence, Value.int .i64 p.keep, Value.int .i64 p.step, Value.int .i64 r] ++ lo.map (Value.int .i64) ++ hi.map (Value.int .i64) ++ [Value.map (some m)]).toArray
def pad8 (l : List Int) : List Int := l ++ List.replicate (8 - l.length) 0
theorem pad8_len {l : List Int} (h : l.length ≤ 8) : (pad8 l).length = 8 := by simp [pad8]; omega
theorem pad8_set {l : List Int} {k : Nat} (x : Int) (hk : l.length = k) (h : k < 8) : (pad8 l).set k x = pad8 (l ++ [x]) := by
  subst hk
  simp only [pad8, List.set_append, Nat.lt_irrefl, if_false, Nat.sub_self, List.length_append, List.length_cons, List.length_nil, List.append_assoc]
  obtain ⟨m, hm⟩ : ∃ m, 8 - l.length = m + 1 := ⟨8 - l.length - 1, by omega⟩
  rw [hm, List.replicate_succ, List.set_cons_zero, show 8 - (l.length + 1) = m by omega]; rfl

theorem deskC_lo {tk : Value} {p : Pool} {r : Int} {lo hi : List Int} {m : Nat} (hl : lo.length = 8) (i : Nat) (h : i < 8) : (deskC tk p r lo hi m)[6 + i]? = some (.int .i64 (lo[i]?.getD 0)) := by
  simp only [deskC, List.getElem?_toArray, List.append_assoc]
  rw [List.getElem?_append_right (by simp)]
  simp only [List.length_cons, List.length_nil]
  rw [List.getElem?_append_left (by simp; omega)]
  simp [hl, h]
theorem deskC_hi {tk : Value} {p : Pool} {r : Int} {lo hi : List Int} {m : Nat} (hl : lo.length = 8) (hh : hi.length = 8) (i : Nat) (h : i < 8) : (deskC tk p r lo hi m)[14 + i]? = some (.int .i64 (hi[i]?.getD 0)) := by
  simp only [deskC, List.getElem?_toArray, List.append_assoc]
  rw [List.getElem?_append_right (by simp; omega)]
  simp only [List.length_cons, List.length_nil]
  rw [List.getElem?_append_right (by simp; omega), List.getElem?_append_left (by simp; omega)]
  simp only [List.length_map, hl, List.getElem?_map]
  rw [show 14 + i - 6 - 8 = i by omega]
  simp [hh, h]
theorem deskC_setLo {tk : Value} {p : Pool} {r : Int} {lo hi : List Int} {m : Nat} (hl : lo.length = 8) (i : Nat) (h : i < 8) (x : Int) : (deskC tk p r lo hi m).setIfInBounds (6 + i) (.int .i64 x) = deskC tk p r (lo.set i x) hi m := by
  simp only [deskC, List.append_assoc]
  rw [List.setIfInBounds_toArray]
  congr 1
  rw [List.set_append_right _ _ (by simp)]
  simp only [List.length_cons, List.length_nil]
  rw [List.set_append_left _ _ (by simp; omega)]
  simp [List.map_set]
theorem deskC_setHi {tk : Value} {p : Pool} {r : Int} {lo hi : List Int} {m : Nat} (hl : lo.length = 8) (hh : hi.length = 8) (i : Nat) (h : i < 8) (x : Int) : (deskC tk p r lo hi m).setIfInBounds (14 + i) (.int .i64 x) = deskC tk p r lo (hi.set i x) m := by
  simp only [deskC, List.append_assoc]
  rw [List.setIfInBounds_toArray]
  congr 1
  rw [List.set_append_right _ _ (by simp; omega)]
  simp only [List.length_cons, List.length_nil]
  rw [List.set_append_right _ _ (by simp; omega), List.set_append_left _ _ (by simp; omega)]
  simp only [List.length_map, hl]
  rw [show 14 + i - 6 - 8 = i by omega]
  simp [List.map_set]

def losTo (p : Pool) (k : Nat) : List Int := pad8 ((p.tickets.take k).map (·.1))
def hisTo (p : Pool) (k : Nat) : List Int := pad8 ((p.tickets.take k).map (·.2))
/-- A desk under way: its box, its map, and its ranges up to k. -/
def Making (w : World) (tk : Value) (p : Pool) (r : Int) (f : Int → Option Value) (k : Nat) (wr : World) : Prop :=
  Box5 w.heap.size tk p wr ∧ MapF billV wr (w.heap.size + 1) f ∧ wr.heap[w.heap.size + 2]? = some (.cells (deskC tk p r (losTo p k) (hisTo p k) (w.heap.size + 1)) 111 (0, 0)) ∧ Pure w wr

/-- The world in which a desk is laid. -/
def deskW (w : World) (tk : Value) (p : Pool) (r : Int) : World :=
  ((w.alloc (Obj.cells #[tk, Value.int IntKind.i64 p.per, Value.int IntKind.i64 p.pence, Value.int IntKind.i64 p.keep, Value.int IntKind.i64 p.step] 24)).alloc (Obj.map #[] 0)).alloc
            (Obj.cells #[tk, Value.int IntKind.i64 p.per, Value.int IntKind.i64 p.pence, Value.int IntKind.i64 p.keep, Value.int IntKind.i64 p.step, Value.int IntKind.i64 r, Value.int IntKind.i64 0, Value.int IntKind.i64 0, Value.int IntKind.i64 0, Value.int IntKind.i64 0,
                Value.int IntKind.i64 0, Value.int IntKind.i64 0, Value.int IntKind.i64 0, Value.int IntKind.i64 0, Value.int IntKind.i64 0, Value.int IntKind.i64 0, Value.int IntKind.i64 0, Value.int IntKind.i64 0,
                Value.int IntKind.i64 0, Value.int IntKind.i64 0, Value.int IntKind.i64 0, Value.int IntKind.i64 0, Value.map (some (w.heap.size + 1))] 111)
theorem deskW_desk (w : World) (tk : Value) (p : Pool) (r : Int) : (deskW w tk p r).heap[w.heap.size + 2]? = some (.cells (deskC tk p r (losTo p 0) (hisTo p 0) (w.heap.size + 1)) 111 (0, 0)) := by
  have h := heap_alloc_new ((w.alloc (Obj.cells #[tk, Value.int IntKind.i64 p.per, Value.int IntKind.i64 p.pence, Value.int IntKind.i64 p.keep, Value.int IntKind.i64 p.step] 24)).alloc (Obj.map #[] 0)) (Obj.cells (deskC tk p r (losTo p 0) (hisTo p 0) (w.heap.size + 1)) 111 (0, 0))
  rw [World.size_alloc, World.size_alloc] at h
  exact h
theorem deskW_making (w : World) (tk : Value) (p : Pool) (r : Int) : Making w tk p r (fun _ => none) 0 (deskW w tk p r) := by
  have hP0 : Pure w (w.alloc (Obj.cells #[tk, Value.int IntKind.i64 p.per, Value.int IntKind.i64 p.pence, Value.int IntKind.i64 p.keep, Value.int IntKind.i64 p.step] 24)) := (Only.refl _ w).alloc _
  have hP1 : Pure ((w.alloc (Obj.cells #[tk, Value.int IntKind.i64 p.per, Value.int IntKind.i64 p.pence, Value.int IntKind.i64 p.keep, Value.int IntKind.i64 p.step] 24)).alloc (Obj.map #[] 0)) (deskW w tk p r) := (Only.refl _ _).alloc _
  have hP2 := ((Only.refl (fun _ => False) (w.alloc (Obj.cells #[tk, Value.int IntKind.i64 p.per, Value.int IntKind.i64 p.pence, Value.int IntKind.i64 p.keep, Value.int IntKind.i64 p.step] 24))).alloc (Obj.map #[] 0)).trans hP1
  refine ⟨Box5.pure (by simp [Box5]) hP2, ?_, deskW_desk w tk p r, hP0.trans hP2⟩
  have := (MapF.made billV (w.alloc (Obj.cells #[tk, Value.int IntKind.i64 p.per, Value.int IntKind.i64 p.pence, Value.int IntKind.i64 p.keep, Value.int IntKind.i64 p.step] 24))).keep hP1 (fun f => f)
  rwa [World.size_alloc] at this

theorem making_step {w wr : World} {tk : Value} {p : Pool} {r : Int} {f : Int → Option Value} {k : Nat} (h : Making w tk p r f k wr) (hk : k < 8) (hlen : k < p.tickets.length) (o : Obj) :
    Making w tk p r f (k + 1) (((wr.setCell ⟨w.heap.size + 1 + 1, 6 + k, none⟩ (.int .i64 (p.tickets[k]?.getD (0, 0)).1)).setCell ⟨w.heap.size + 1 + 1, 14 + k, none⟩ (.int .i64 (p.tickets[k]?.getD (0, 0)).2)).alloc o).drew := by
  obtain ⟨hB, hMf, hd, hP⟩ := h
  have hz := lt_of_block hd
  have hln : (losTo p k).length = 8 := pad8_len (by simp; omega)
  have hhn : (hisTo p k).length = 8 := pad8_len (by simp; omega)
  have hO : Only (fun j => j = w.heap.size + 1 + 1) wr (((wr.setCell ⟨w.heap.size + 1 + 1, 6 + k, none⟩ (.int .i64 (p.tickets[k]?.getD (0, 0)).1)).setCell ⟨w.heap.size + 1 + 1, 14 + k, none⟩ (.int .i64 (p.tickets[k]?.getD (0, 0)).2)).alloc o).drew :=
    Only.drew (Only.alloc (Only.setCell (Only.setCell (Only.refl _ wr) (.inl (by rfl)) _) (.inl (by rfl)) _) o)
  have htk : (p.tickets.take (k + 1)) = p.tickets.take k ++ [p.tickets[k]?.getD (0, 0)] := by
    rw [List.take_add_one, List.getElem?_eq_getElem hlen]; rfl
  refine ⟨⟨hO.cell hB.1 (by simp; omega), hO.cell hB.2.1 (by simp; omega), hO.cell hB.2.2.1 (by simp; omega), hO.cell hB.2.2.2.1 (by simp; omega), hO.cell hB.2.2.2.2 (by simp; omega)⟩, hMf.keep hO (by omega), ?_, hP.trans' hO (fun i hi e => by omega)⟩
  have h1 := heap_setCell_same wr (w.heap.size + 1 + 1) (6 + k) _ _ (.int .i64 (p.tickets[k]?.getD (0, 0)).1) hd
  have h2 := heap_setCell_same _ (w.heap.size + 1 + 1) (14 + k) _ _ (.int .i64 (p.tickets[k]?.getD (0, 0)).2) h1
  rw [deskC_setLo hln k hk, deskC_setHi (by simpa using hln) hhn k hk] at h2
  have h3 : (losTo p k).set k (p.tickets[k]?.getD (0, 0)).1 = losTo p (k + 1) := by
    unfold losTo; rw [pad8_set _ (by simp; omega) hk, htk]; simp
  have h4 : (hisTo p k).set k (p.tickets[k]?.getD (0, 0)).2 = hisTo p (k + 1) := by
    unfold hisTo; rw [pad8_set _ (by simp; omega) hk, htk]; simp
  rw [h3, h4] at h2
  exact (Below.heap_alloc _ o _ (lt_of_block h2)).trans h2

/-- The nets of the first totals. -/
def netsTo (p : Pool) (n : Nat) : Int → Option Value := fun x => if 0 ≤ x ∧ x < n then some (.int .i64 (netW p x)) else none
theorem netsTo_step (p : Pool) (n : Nat) : ∀ x, upd (netsTo p n) (n : Int) (some (.int .i64 (netW p n))) x = netsTo p (n + 1) x := by
  intro x
  unfold upd netsTo
  by_cases h : x = n
  · subst h; simp; omega
  · simp only [h, if_false]
    by_cases h1 : 0 ≤ x ∧ x < (n : Int)
    · rw [if_pos h1, if_pos (by omega)]
    · rw [if_neg h1, if_neg (by omega)]

theorem wrap64_bd (x : Int) : -9223372036854775808 ≤ wrap64 x ∧ wrap64 x ≤ 9223372036854775807 := by unfold wrap64; omega
theorem deskC_map {tk : Value} {p : Pool} {r : Int} {lo hi : List Int} {m : Nat} (hl : lo.length = 8) (hh : hi.length = 8) : (deskC tk p r lo hi m)[22]? = some (.map (some m)) := by
  simp only [deskC, List.getElem?_toArray]
  rw [List.getElem?_append_right (by simp; omega)]
  simp [hl, hh]
def los (p : Pool) : List Int := pad8 (p.tickets.map (·.1))
def his (p : Pool) : List Int := pad8 (p.tickets.map (·.2))
theorem Hlo_all (p : Pool) (k : Nat) (h : k = p.tickets.length) : losTo p k = los p := by subst h; simp [losTo, los]
theorem Hhi_all (p : Pool) (k : Nat) (h : k = p.tickets.length) : hisTo p k = his p := by subst h; simp [hisTo, his]
/-- A desk under way, its ranges laid. -/
def Making2 (w : World) (tk : Value) (p : Pool) (r : Int) (f : Int → Option Value) (wr : World) : Prop :=
  Box5 w.heap.size tk p wr ∧ MapF billV wr (w.heap.size + 1) f ∧ wr.heap[w.heap.size + 2]? = some (.cells (deskC tk p r (los p) (his p) (w.heap.size + 1)) 111 (0, 0)) ∧ Pure w wr

theorem making2_put {w wr : World} {tk : Value} {p : Pool} {r : Int} {f f' : Int → Option Value} (h : Making2 w tk p r f wr) (g : Growth) (o : Obj) (hf : MapF billV ((grow wr g).putObj (w.heap.size + 1) o) (w.heap.size + 1) f') : Making2 w tk p r f' ((grow wr g).putObj (w.heap.size + 1) o) := by
  obtain ⟨hB, hMf, hd, hP⟩ := h
  have hO : Only (fun j => j = w.heap.size + 1) wr ((grow wr g).putObj (w.heap.size + 1) o) := (grow_pure wr g).mono (fun _ _ f => f.elim) |>.trans (putObj_only _ _ _)
  exact ⟨⟨hO.cell hB.1 (by simp), hO.cell hB.2.1 (by simp), hO.cell hB.2.2.1 (by simp), hO.cell hB.2.2.2.1 (by simp), hO.cell hB.2.2.2.2 (by simp)⟩, hf, hO.heap hd (by omega), hP.trans' hO (fun i hi e => by omega)⟩

theorem Ints.drewN {D : Nat → Prop} {w : World} {v : Value} {l : List Int} (h : Ints D w v l) (n : Nat) : Ints D (w.drewN n) v l := h.pure ((Only.refl _ w).drewN n)
theorem sum_quiet {D : Nat → Prop} {v : Value} {l : List Int} {w : World} {n : Nat} (hv : Ints D w v l) :
    Calls Try.prog 47 #[v] (w.drewN n) fun e w'' => e = .returned (.int .i64 (sumW l)) ∧ ∃ m, w'' = w.drewN m :=
  (sum_any D v l _ (hv.drewN n)).mono fun _ _ ⟨he, hw⟩ => ⟨he, n, hw.symm⟩
def badNet (p : Pool) (x : Int) : Prop := x ≠ 0 ∧ x < sumW (los p)
instance (p : Pool) (x : Int) : Decidable (badNet p x) := by unfold badNet; exact inferInstance
/-- What the map of a desk holds. -/
def netsF (p : Pool) : Int → Option Value := fun x => if badNet p x then none else netsTo p (wrap64 (sumW (his p) + 1)).toNat x
/-- A desk whose map is gone through. -/
def Sweeping (w : World) (tk : Value) (p : Pool) (r : Int) (rb : Nat) (N : Nat) (wr : World) : Prop :=
  ∃ (left : Int → Prop) (m : Nat) (f : Int → Option Value), RangeF billV wr (w.heap.size + 1) rb f left m ∧ (∀ x, (¬ left x ∧ badNet p x → f x = none) ∧ (¬ (¬ left x ∧ badNet p x) → f x = netsTo p N x)) ∧
    w.heap.size + 2 < rb ∧ wr.heap[w.heap.size + 2]? = some (.cells (deskC tk p r (los p) (his p) (w.heap.size + 1)) 111 (0, 0)) ∧ Pure w wr

theorem sweep_stay {w wr w4 w5 : World} {tk : Value} {p : Pool} {r : Int} {rb N : Nat} {f : Int → Option Value} {left : Int → Prop} {m4 : Nat} {x : Int} (hP : Pure w wr) (hO : Only (fun k => k = rb) wr w4) (hP5 : Pure w4 w5)
    (hd : wr.heap[w.heap.size + 2]? = some (.cells (deskC tk p r (los p) (his p) (w.heap.size + 1)) 111 (0, 0))) (hrb : w.heap.size + 2 < rb)
    (hR : RangeF billV w4 (w.heap.size + 1) rb f (fun y => left y ∧ y ≠ x) m4) (hf : ∀ x, (¬ left x ∧ badNet p x → f x = none) ∧ (¬ (¬ left x ∧ badNet p x) → f x = netsTo p N x)) (hx : ¬ badNet p x) (hl : left x) :
    Sweeping w tk p r rb N w5 ∧ leftCount w5 (w.heap.size + 1) rb = m4 := by
  have hR5 := hR.keep hP5 (fun f => f) (fun f => f)
  refine ⟨⟨_, m4, f, hR5, fun y => ⟨fun h => ?_, fun h => ?_⟩, hrb, hP5.heap (hO.heap hd (by omega)) (fun f => f), (hP.trans' hO (fun i hi e => by omega)).trans hP5⟩, hR5.count⟩
  · by_cases hy : y = x
    · subst hy; exact absurd h.2 hx
    · exact (hf y).1 ⟨fun hl' => h.1 ⟨hl', hy⟩, h.2⟩
  · by_cases hy : y = x
    · subst hy; exact (hf y).2 (fun h' => h'.1 hl)
    · exact (hf y).2 (fun h' => h ⟨fun hl' => h'.1 hl'.1, h'.2⟩)
theorem sweep_drop {w wr w4 w5 w6 : World} {tk : Value} {p : Pool} {r : Int} {rb N : Nat} {f : Int → Option Value} {left left' : Int → Prop} {m5 : Nat} {x : Int} (hP : Pure w wr) (hO : Only (fun k => k = rb) wr w4) (hP5 : Pure w4 w5)
    (hd : wr.heap[w.heap.size + 2]? = some (.cells (deskC tk p r (los p) (his p) (w.heap.size + 1)) 111 (0, 0))) (hrb : w.heap.size + 2 < rb) (hO6 : Only (fun k => k = w.heap.size + 1) w5 w6)
    (hR : RangeF billV w6 (w.heap.size + 1) rb (upd f x none) left' m5) (hl' : ∀ y, left' y ↔ left y ∧ y ≠ x) (hf : ∀ x, (¬ left x ∧ badNet p x → f x = none) ∧ (¬ (¬ left x ∧ badNet p x) → f x = netsTo p N x)) (hx : badNet p x) :
    Sweeping w tk p r rb N w6 ∧ leftCount w6 (w.heap.size + 1) rb = m5 := by
  refine ⟨⟨_, m5, _, hR, fun y => ⟨fun h => ?_, fun h => ?_⟩, hrb, hO6.heap (hP5.heap (hO.heap hd (by omega)) (fun f => f)) (by omega), ((hP.trans' hO (fun i hi e => by omega)).trans hP5).trans' hO6 (fun i hi e => by omega)⟩, hR.count⟩
  · unfold upd
    by_cases hy : y = x
    · simp [hy]
    · simp only [hy, if_false]; exact (hf y).1 ⟨fun hl => h.1 ((hl' y).2 ⟨hl, hy⟩), h.2⟩
  · unfold upd
    by_cases hy : y = x
    · subst hy; exact absurd ⟨fun q => ((hl' y).1 q).2 rfl, hx⟩ h
    · simp only [hy, if_false]; exact (hf y).2 (fun h' => h ⟨fun q => h'.1 ((hl' y).1 q).1, h'.2⟩)

/-- A desk, as it is read: its block b, and its map beyond B. -/
def DeskAt (B b : Nat) (v : Value) (p : Pool) (r : Int) (w : World) : Prop :=
  ∃ tk m, v = .agg #[tk, .int .i64 p.per, .int .i64 p.pence, .int .i64 p.keep, .int .i64 p.step] ∧ B ≤ b ∧ B ≤ m ∧ w.heap[b]? = some (.cells (deskC tk p r (los p) (his p) m) 111 (0, 0)) ∧ MapF billV w m (netsF p)

set_option maxHeartbeats 1000000 in
set_option maxRecDepth 100000 in
theorem newDesk_any (D : Nat → Prop) (v : Value) (p : Pool) (r : Int) (w : World) (hv : PoolAt D w v p) (hp : 1 ≤ p.per) (ht : p.tickets.length ≤ 8) :
    Calls Try.prog 60 #[v, .int .i64 r] w fun e w' => ∃ b, e = .returned (.pointer (some ⟨b, 0, none⟩)) ∧ w.heap.size ≤ b ∧ DeskAt w.heap.size b v p r w' ∧ Pure w w' := by
  obtain ⟨tk, rfl, a, len, cap, rfl, hlen, _, hm, hc⟩ := hv
  have HL := Lib.hid hlen; clear hlen
  have HC := Lib.hid hc; clear hc
  have hmm := @run_makeMap Try.prog
  have M0 := deskW_making w (.slice a len cap) p r
  have hclr := run_clear_zero (P := Try.prog) (deskW w (.slice a len cap) p r) 25 2 0 (.int .i64 0) Try.underlying25 (Try.zeroValue2 _) rfl rfl (w.heap.size + 1 + 1) 6 8 8 _ 111 (deskW_desk w (.slice a len cap) p r) (by decide) (by simp [deskC, losTo, hisTo, pad8]) (by simp [deskC, losTo, hisTo, pad8, List.replicate])
  unfold deskW at M0 hclr
  have M := Lib.hid M0; clear M0
  go_enter Try.func60, Try.ntmps60
  go_wp2
  go_loopw [22] (fun i wr => ∃ k : Nat, k ≤ len ∧ i = .int .i64 k ∧ Making w (.slice a len cap) p r (fun _ => none) k wr) (fun i _ => len - (intOf i).toNat)
  case atStart => exact ⟨0, Nat.zero_le _, rfl, M.out⟩
  case round =>
    obtain ⟨k, hk, rfl, hB, hMf, hd, hP⟩ := hrel
    by_cases hlt : k < len
    · obtain ⟨b, off, rfl, _, hcell, hcell2⟩ := HC.out k hlt
      have h0 := hP.cell hcell (fun f => f)
      have h1 := hP.cell hcell2 (fun f => f)
      clear hcell hcell2
      have hk8 : k < 8 := by rw [HL.out] at hlt; omega
      have hz := lt_of_block hd
      have hln : (losTo p k).length = 8 := pad8_len (by simp; omega)
      have hhn : (hisTo p k).length = 8 := pad8_len (by simp; omega)
      have d6 : wr.cell? ⟨w.heap.size + 1 + 1, 6 + k, none⟩ = some (.int .i64 ((losTo p k)[k]?.getD 0)) := by
        rw [cell_of_row _ _ _ _ _ _ hd]; exact deskC_lo hln k hk8
      have d14 : wr.cell? ⟨w.heap.size + 1 + 1, 14 + k, none⟩ = some (.int .i64 ((hisTo p k)[k]?.getD 0)) := by
        rw [cell_of_row _ _ _ _ _ _ hd]; exact deskC_hi hln hhn k hk8
      have fr : ∀ j, wr.frozen? ⟨w.heap.size + 1 + 1, j, none⟩ = false := fun j => by simp [World.frozen?, hd]
      have Hln := Lib.hid hln; have Hhn := Lib.hid hhn; clear hln hhn
      go_wp2
      go_region
      go_wp2
      go_roundw
      case rel => exact ⟨k + 1, by omega, by go_num, making_step ⟨hB, hMf, hd, hP⟩ hk8 (by rw [← HL.out]; exact hlt) _⟩
      case measure => simp [intOf]; omega
    · obtain rfl : k = len := by omega
      have hln : (losTo p k).length = 8 := pad8_len (by simp; omega)
      have hhn : (hisTo p k).length = 8 := pad8_len (by simp; omega)
      have hI : Ints (fun _ => True) wr (.slice (some ⟨w.heap.size + 1 + 1, 14, none⟩) 8 8) (hisTo p k) :=
        ⟨_, 8, 8, rfl, hhn.symm, Nat.le_refl _, by omega, fun i hi => ⟨_, 14, rfl, trivial, by rw [cell_of_row _ _ _ _ _ _ hd]; exact deskC_hi hln hhn i hi⟩⟩
      have Hln := Lib.hid hln; have Hhn := Lib.hid hhn; clear hln hhn
      go_wp2_with fail
      refine (sum_any _ _ _ _ hI).mono ?_
      rintro e w' ⟨rfl, rfl⟩
      have hnb := wrap64_bd (sumW (hisTo p k) + 1)
      go_wp2_with fail
      generalize hN : wrap64 (sumW (hisTo p k) + 1) = n at hnb ⊢
      have HN := Lib.hid hN; clear hN
      have hMk : Making2 w (.slice a k cap) p r (netsTo p 0) wr := ⟨hB, hMf.congr (fun x => by simp [netsTo]), by rw [Hlo_all p k HL.out, Hhi_all p k HL.out] at hd; exact hd, hP⟩
      clear hclr M hI hB hMf hd hP
      go_loopw [48] (fun i wr => ∃ j : Nat, (j : Int) ≤ max n 0 ∧ i = .int .i64 j ∧ Making2 w (.slice a k cap) p r (netsTo p j) wr) (fun i _ => (n - intOf i).toNat)
      case atStart => exact ⟨0, by omega, rfl, hMk⟩
      case round =>
        clear hMk
        obtain ⟨j, hj, rfl, hB, hMf, hd, hP⟩ := hrel
        have hmc : wr.cell? ⟨w.heap.size + 1 + 1, 22, none⟩ = some (.map (some (w.heap.size + 1))) := by
          rw [cell_of_row _ _ _ _ _ _ hd]; exact deskC_map (pad8_len (by simpa using ht)) (pad8_len (by simpa using ht))
        by_cases hltj : (j : Int) < n
        · have gm := fun g => grow_cell hmc g
          obtain ⟨b0, b1, b2, b3, b4⟩ := hB
          have g0 := fun g => grow_cell b0 g; have g1 := fun g => grow_cell b1 g; have g2 := fun g => grow_cell b2 g; have g3 := fun g => grow_cell b3 g; have g4 := fun g => grow_cell b4 g
          go_wp2
          refine wp_region_grow_tail 9 (by kernel_rfl) (by kernel_rfl) ?_
          simp only [List.take_succ_cons, List.take_zero, List.drop_succ_cons, List.drop_zero]
          repeat (go_big_quiet_step (exact calls_grow (net_any _ p _ _ hp)))
          refine wpQuiet_nil ?_
          rintro w' ⟨g, rfl⟩
          obtain ⟨o, hrun, hM1⟩ := (hMf.keep (grow_pure wr g) (fun f => f)).update bill_law Try.underlying109 (j : Int) (.int .i64 (netW p j))
          have HM := Lib.hid (making2_put ⟨⟨b0, b1, b2, b3, b4⟩, hMf, hd, hP⟩ g o (hM1.congr (netsTo_step p j))); clear hM1
          unfold billV at hrun
          clear gm g0 g1 g2 g3 g4 b0 b1 b2 b3 b4 hmc hd
          go_wp2
          go_roundw
          case rel => exact ⟨j + 1, by omega, by go_num, HM.out⟩
          case measure => simp [intOf]; omega
        · obtain ⟨o, hrun, m0, hR⟩ := hMf.range Try.underlying109
          have hz := lt_of_block hd
          have hS : Sweeping w (.slice a k cap) p r wr.heap.size j (wr.alloc o) := by
            refine ⟨_, m0, _, hR, fun x => ⟨fun h => ?_, fun _ => rfl⟩, hz, (Below.heap_alloc _ o _ hz).trans hd, hP.alloc o⟩
            have h1 := h.1; simpa using h1
          have HS := Lib.hid hS; clear hS
          clear hR hd
          go_wp2_with fail
          clear hrun hmc hB hMf hz hP
          generalize wr.heap.size = rb at HS ⊢
          go_loopw [67] (fun _ w3 => Sweeping w (.slice a k cap) p r rb j w3) (fun _ w3 => leftCount w3 (w.heap.size + 1) rb)
          case atStart => exact HS.out
          case round =>
            clear HS
            obtain ⟨left, m, f, hR, hf, hrb2, hd, hP3⟩ := hrel
            have hlo : Ints (fun q => q = w.heap.size + 1 + 1) wr (.slice (some ⟨w.heap.size + 1 + 1, 6, none⟩) 8 8) (los p) :=
              ⟨_, 8, 8, rfl, (pad8_len (by simpa using ht)).symm, Nat.le_refl _, by omega, fun i hi => ⟨_, 6, rfl, rfl, by rw [cell_of_row _ _ _ _ _ _ hd]; exact deskC_lo (pad8_len (by simpa using ht)) i hi⟩⟩
            rcases hR.next (P := Try.prog) 0 with ⟨hno, hnx⟩ | ⟨x, v, w4, m4, hlx, hfx, hnx, hO, hsz, hR4, hmm4, hent⟩
            · go_wp2_with fail
              go_ret
              have hHN := HN.out
              rw [Hhi_all p k HL.out] at hHN
              have hnets : ∀ x, f x = netsF p x := fun x => by
                unfold netsF
                by_cases hb : badNet p x
                · rw [if_pos hb]; exact (hf x).1 ⟨hno x, hb⟩
                · rw [if_neg hb, (hf x).2 (fun h => hb h.2), hHN]; congr 1; omega
              exact ⟨w.heap.size + 2, rfl, by omega, ⟨_, w.heap.size + 1, rfl, by omega, by omega, hd, hR.map.congr hnets⟩, hP3⟩
            · unfold billV at hnx hent
              have hl4 : ∀ o, Ints (fun q => q = w.heap.size + 1 + 1) (w4.alloc o) (.slice (some ⟨w.heap.size + 1 + 1, 6, none⟩) 8 8) (los p) := fun o =>
                (hlo.keep hO (fun k hk e => by omega)).pure ((Only.refl _ w4).alloc o)
              have HL4 := Lib.hid hl4; clear hl4
              have HF := Lib.hid hf; clear hf
              by_cases hx : x = 0
              · subst hx
                go_wp2_with fail
                go_quiet (fail)
                go_wp2_with fail
                go_roundw
                case rel => exact (sweep_stay hP3 hO (((Only.refl _ w4).alloc _).drewN _) hd hrb2 hR4 HF.out (by simp [badNet]) hlx).1
                case measure => rw [(sweep_stay hP3 hO (((Only.refl _ w4).alloc _).drewN _) hd hrb2 hR4 HF.out (by simp [badNet]) hlx).2, hR.count]; exact hmm4
              · by_cases hbad : x < sumW (los p)
                · have hgd : wr.cell? ⟨w.heap.size + 1 + 1, 22, none⟩ = some (.map (some (w.heap.size + 1))) := by
                    rw [cell_of_row _ _ _ _ _ _ hd]; exact deskC_map (pad8_len (by simpa using ht)) (pad8_len (by simpa using ht))
                  have hgd4 := hO.cell hgd (by simp; omega)
                  have hgd5 := fun o => (((Only.refl (fun _ => False) w4).alloc o).cell hgd4 (fun f => f))
                  go_wp2_with fail
                  go_quiet (exact sum_quiet (HL4.out _))
                  go_wp2_with fail
                  refine wp_region_drew_tail 5 (by kernel_rfl) (by kernel_rfl) ?_
                  simp only [List.take_succ_cons, List.take_zero, List.drop_succ_cons, List.drop_zero]
                  repeat (go_big_quiet_step (fail))
                  refine wpQuiet_nil ?_
                  rintro w' ⟨g, rfl⟩
                  obtain ⟨o5, m5, hdel, hR5, hle5⟩ := (hR4.keep (((Only.refl (fun _ => False) w4).alloc (Obj.cells #[Value.int IntKind.i64 x] 113)).drewN (nq + g)) (fun f => f) (fun f => f)).delete (ty := 0) bill_law Try.underlying109 x
                  have HD := Lib.hid (sweep_drop hP3 hO (((Only.refl _ w4).alloc (Obj.cells #[Value.int IntKind.i64 x] 113)).drewN (nq + g)) hd hrb2 (putObj_only _ _ o5) hR5 (fun y => by simp) HF.out ⟨hx, hbad⟩)
                  unfold billV at hdel
                  clear hR5 hgd5 hgd4 hgd
                  go_wp2
                  go_roundw
                  case rel => exact HD.out.1
                  case measure => rw [HD.out.2, hR.count]; omega
                · go_wp2_with fail
                  go_quiet (exact sum_quiet (HL4.out _))
                  go_wp2_with fail
                  go_roundw
                  case rel => exact (sweep_stay hP3 hO (((Only.refl _ w4).alloc _).drewN _) hd hrb2 hR4 HF.out (fun h => by have := h.2; omega) hlx).1
                  case measure => rw [(sweep_stay hP3 hO (((Only.refl _ w4).alloc _).drewN _) hd hrb2 hR4 HF.out (fun h => by have := h.2; omega) hlx).2, hR.count]; exact hmm4
end Go.Proofs.Ytngkmfddamaegaa
