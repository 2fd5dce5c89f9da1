/-
  Behind.
-/
import Derived.Test.YtcephfmafmmilaaMc
namespace Go.Proofs.Ytcephfmafmmilaa
open Go.RowKit Go.Shelf

set_option maxHeartbeats 2000000 in
set_option maxRecDepth 100000 in
theorem behind1_any (v : Value) (c L : List Int) (base hi b g B6 B7 B10 i k : Nat) (w : World) (hg : GoodC c) (hL : L.length = 361) (hb : ∀ i, 0 ≤ nAt L i ∧ nAt L i ≤ 100000) (h : OpenW v c L base hi b g B6 B7 w) (hB : w.heap[B10]? = some (.cells #[.int .i64 i] 3)) (hhg : hi ≤ g) (hh6 : hi ≤ B6) (hh7 : hi ≤ B7) (hh10 : hi ≤ B10) (hk : k ≤ 180) (hi6 : i ≤ 6) :
    Calls Try.prog 63 #[.int .i64 k, .pointer (some ⟨B6, 0, none⟩), .pointer (some ⟨B10, 0, none⟩), .pointer (some ⟨B7, 0, none⟩)] w fun e w' => e = .returned (.int .i64 (mostOf c (i + 1 + k) - nAt L k)) ∧ OpenW v c L base hi b g B6 B7 w' ∧ Only (fun k => base ≤ k ∧ k < hi) w w' := by
  have d6 : w.cell? ⟨B6, 0, none⟩ = some (.pointer (some ⟨b, 0, none⟩)) := cell_of_row _ _ 0 _ _ _ h.b6
  have d7 : w.cell? ⟨B7, 0, none⟩ = some (.slice (some ⟨g, 0, none⟩) 361 361) := cell_of_row _ _ 0 _ _ _ h.b7
  have d10 : w.cell? ⟨B10, 0, none⟩ = some (.int .i64 i) := cell_of_row _ _ 0 _ _ _ hB
  have dk := arr_get h.row k (by omega)
  obtain ⟨q, hq⟩ : ∃ q, i + 1 + k = q := ⟨_, rfl⟩
  have hm := fun W (hW : Pure w W) => most_made q hg (h.ints.pure hW) (by omega) (h.made.pure hW) (Nat.le_trans h.le hW.size)
  have hmb := mostOf_bd hg.1 hg.2.2 q
  have hbk := hb k
  rw [hq]
  obtain ⟨x, hx⟩ : ∃ x, mostOf c q = x := ⟨_, rfl⟩
  obtain ⟨y, hy⟩ : ∃ y, nAt L k = y := ⟨_, rfl⟩
  rw [show L[k]?.getD 0 = y from hy] at dk
  simp only [hx] at hm
  rw [hx] at hmb ⊢
  rw [hy] at hbk ⊢
  have e0 : (i : Int) + 1 + k = q := by omega
  have e2 : IntKind.i64.wrap (q : Int) = q := by rw [IntKind.wrap_i64]; omega
  have hq200 : q ≤ 200 := by omega
  obtain ⟨G, hG⟩ : ∃ G : World → Prop, ∀ x, G x ↔ Only (fun k => base ≤ k ∧ k < hi) w x := ⟨_, fun _ => Iff.rfl⟩
  have g6 : ∀ g' : InG G, g'.world.cell? ⟨B6, 0, none⟩ = some (.pointer (some ⟨b, 0, none⟩)) := fun g' => ((hG _).1 g'.holds).cell d6 (fun e => by have h : B6 < hi := e.2; omega)
  have g7 : ∀ g' : InG G, g'.world.cell? ⟨B7, 0, none⟩ = some (.slice (some ⟨g, 0, none⟩) 361 361) := fun g' => ((hG _).1 g'.holds).cell d7 (fun e => by have h : B7 < hi := e.2; omega)
  have g10 : ∀ g' : InG G, g'.world.cell? ⟨B10, 0, none⟩ = some (.int .i64 i) := fun g' => ((hG _).1 g'.holds).cell d10 (fun e => by have h : B10 < hi := e.2; omega)
  have gk : ∀ g' : InG G, g'.world.cell? ⟨g, k, none⟩ = some (.int .i64 y) := fun g' => ((hG _).1 g'.holds).cell dk (fun e => by have h : g < hi := e.2; omega)
  haveI hInh : Inhabited (InG G) := ⟨⟨w, (hG w).2 (Only.refl _ _)⟩⟩
  have MKG := Lib.hid (fun x (h : Only (fun k => base ≤ k ∧ k < hi) w x) => (hG x).2 h)
  have HM := Lib.hid hm; have HH := Lib.hid h
  clear hm hx hy hG h hL hb d6 d7 dk d10 hB hq
  go_enter Try.func63, Try.ntmps63
  go_wp2_with fail
  refine any_start G (by kernel_rfl) ?_
  refine any_take [0, 1, 2, 3, 4, 6, 7, 8, 9] (by kernel_rfl) (MKG.out _ (Only.refl _ _).drew) (fun d _ _ _ _ h => by cases d <;> exact h) 3 (by kernel_rfl) ?_
  simp only [picks, List.drop_succ_cons, List.drop_zero, List.take_succ_cons, List.take_zero, List.cons_append, List.nil_append]
  repeat (go_big_quiet_step (fail))
  refine wpQuiet_nil ?_
  refine any_force (i := 5) (by kernel_rfl) rfl ?_
  go_wp2_with fail
  refine (HM.out w.drew (Only.refl _ _).drew).mono ?_
  rintro e w5 ⟨rfl, hM5, hO5⟩
  have hG5 : Only (fun k => base ≤ k ∧ k < hi) w w5 := (Only.refl _ w).drew.trans hO5
  have HG5 := Lib.hid (MKG.out w5 hG5)
  have HO5 := Lib.hid (And.intro (HH.out.only hM5 hG5 hhg hh6 hh7) hG5)
  clear hM5 hO5 hG5 g6 g7 gk g10
  go_wp2_with fail
  refine ⟨HG5.out, ?_⟩
  refine any_take [10, 11] (by kernel_rfl) HG5.out (fun d _ _ _ _ h => by cases d <;> exact h) 0 (by kernel_rfl) ?_
  simp only [picks, List.drop_succ_cons, List.drop_zero, List.take_succ_cons, List.take_zero, List.cons_append, List.nil_append]
  repeat (go_big_quiet_step (fail))
  refine wpQuiet_nil ?_
  refine any_done (by kernel_rfl) ?_
  go_wp2
  go_ret
  exact ⟨rfl, HO5.out⟩

def behF (c L : List Int) (i u : Nat) : Int := mostOf c (i + 1 + u) - nAt L u
def behTo (c L : List Int) (k : Nat) : List Int := (List.range k).map fun i => bestTo (behF c L i) 180
theorem behTo_succ (c L : List Int) (k : Nat) : behTo c L (k + 1) = behTo c L k ++ [bestTo (behF c L k) 180] := by simp [behTo, List.range_succ]
theorem behTo_len (c L : List Int) (k : Nat) : (behTo c L k).length = k := by simp [behTo]

set_option maxHeartbeats 4000000 in
set_option maxRecDepth 100000 in
theorem Behind_any (D D1 : Nat → Prop) (v v1 : Value) (c : List Int) (ch : List (List Int)) (w : World) (hv : Ints D w v c) (hv1 : Lists D1 w v1 ch) :
    Calls Try.prog 38 #[v, v1] w fun e w' => ∃ x, e = .returned (.tuple #[x, .int .i64 (behindR c ch).2]) ∧ w'.ownsRow w.heap.size 2 1 x (behindR c ch).1.length ((behindR c ch).1.map (.int .i64)) ∧ Pure w w' := by
  have hdef : behindR c ch = if openE c ch ≠ 0 then ([], openE c ch) else (behTo c (leasts ch 360) c.length, 0) := rfl
  have hop := open_any D D1 v v1 c ch w hv hv1
  have hl1 : ∃ a cp, v = .slice a c.length cp := by obtain ⟨a, n, cp, h, hl, _⟩ := hv; exact ⟨a, cp, by rw [h, hl]⟩
  obtain ⟨a, cap, rfl⟩ := hl1
  obtain ⟨a1, n1, cap1, rfl⟩ : ∃ a n c, v1 = .slice a n c := by obtain ⟨a, n, c, h, _⟩ := hv1; exact ⟨a, n, c, h⟩
  obtain ⟨i0, hi0, hz0, hz1, hz2⟩ := info_parts infoI64
  obtain ⟨s, hs⟩ : ∃ s, openE c ch = s := ⟨_, rfl⟩
  obtain ⟨R, hRR⟩ : ∃ R, behindR c ch = R := ⟨_, rfl⟩
  obtain ⟨n, hn⟩ : ∃ n, c.length = n := ⟨_, rfl⟩
  rw [hRR] at hdef ⊢
  rw [hs] at hop hdef
  rw [hn] at hdef hop ⊢
  have HD := Lib.hid hdef; have HN := Lib.hid hn
  clear hdef hv hv1 hs hRR hn
  go_enter Try.func38, Try.ntmps38
  go_wp2_with fail
  refine hop.mono ?_
  rintro e w2 ⟨x, y, rfl, hne, hok, P2⟩
  have HNE := Lib.hid hne; have HOK := Lib.hid hok; have Q2 := Lib.hid P2
  clear hop hne hok P2
  by_cases hs0 : s = 0
  · subst hs0
    obtain ⟨base, hi, b, g, rfl, rfl, hwb, hbh, hhg, hM, hh, hI, hG, hGG, h1⟩ := HOK.out rfl
    have hgl := lt_of_block hh
    obtain ⟨w3, hw3⟩ : ∃ x, x = (w2.alloc (.cells #[.pointer (some ⟨b, 0, none⟩)] 67)).alloc (.cells #[.slice (some ⟨g, 0, none⟩) 361 361] 22) := ⟨_, rfl⟩
    have hP3 : Pure w2 w3 := by rw [hw3]; exact ((Only.refl _ w2).alloc _).alloc _
    have k6 : w3.heap[w2.heap.size]? = some (.cells #[.pointer (some ⟨b, 0, none⟩)] 67) := by
      have h := World.alloc_heap_new w2 (.cells #[.pointer (some ⟨b, 0, none⟩)] 67)
      rw [hw3]; exact (Below.heap_alloc _ _ _ (lt_of_block h)).trans h
    have k7 : w3.heap[w2.heap.size + 1]? = some (.cells #[.slice (some ⟨g, 0, none⟩) 361 361] 22) := by
      have h := World.alloc_heap_new (w2.alloc (.cells #[.pointer (some ⟨b, 0, none⟩)] 67)) (.cells #[.slice (some ⟨g, 0, none⟩) 361 361] 22)
      rw [World.size_alloc] at h
      rw [hw3]; exact h
    have hw3s : w3.heap.size = w2.heap.size + 2 := by rw [hw3]; simp
    obtain ⟨B6, hB6⟩ : ∃ B, B = w2.heap.size := ⟨_, rfl⟩
    rw [← hB6] at k6 k7 hw3s
    obtain ⟨B7, hB7⟩ : ∃ B, B = B6 + 1 := ⟨_, rfl⟩
    rw [← hB7] at k7
    have hOW : OpenW (.slice a n cap) c (leasts ch 360) base hi b g B6 B7 w3 := ⟨hM.pure hP3, hP3.heap hh (fun f => f), hI.pure hP3, k6, k7, by omega⟩
    have hL := leasts_len ch 360 h1
    have hLb := leasts_bd (ch := ch) (t := 360) (by omega) h1 hGG
    have hh6 : hi ≤ B6 := by omega
    have hh7 : hi ≤ B7 := by omega
    have hh3 : hi ≤ w3.heap.size := by omega
    have hwb6 : w.heap.size ≤ w3.heap.size := by omega
    have hn6 : n ≤ 6 := by have := hG.2.1; have := HN.out; omega
    have HOW := Lib.hid hOW; have HL := Lib.hid hL; have HLB := Lib.hid hLb; have HG := Lib.hid hG; have HW3 := Lib.hid hw3; have HQ := Lib.hid (Q2.out.trans hP3); have HB6 := Lib.hid hB6; have HB7 := Lib.hid hB7
    have hd := HD.out
    rw [if_neg (by simp)] at hd
    obtain ⟨L, hLL⟩ : ∃ L, leasts ch 360 = L := ⟨_, rfl⟩
    rw [hLL] at HOW HL HLB hd
    have HD2 := Lib.hid hd
    clear hP3 hh hM hI hG hGG h1 k6 k7 hOW hL hLb hw3 hB6 hB7 hgl hd hLL hw3s
    go_wp2_with fail
    rw [← HW3.out, ← HB6.out, ← HB7.out]
    go_loopw [23, 9] (fun i al wr => ∃ (k : Nat) (ao : Option Addr) (ac : Nat), k ≤ n ∧ i = .int .i64 k ∧ al = .slice ao k ac ∧ k ≤ ac ∧ ac ≤ maxLen ∧ (ao = none → k = 0 ∧ ac = 0) ∧ Hid (wr.ownsRow w3.heap.size 2 1 (.slice ao k ac) k ((behTo c L k).map (.int .i64))) ∧ Hid (OpenW (.slice a n cap) c L base hi b g B6 B7 wr) ∧ Hid (Only (fun k => base ≤ k) w wr) ∧ w3.heap.size ≤ wr.heap.size) (fun i _ _ => n - (intOf i).toNat)
    case atStart => exact ⟨0, none, 0, Nat.zero_le _, rfl, rfl, Nat.le_refl _, Nat.zero_le _, fun _ => ⟨rfl, rfl⟩, Lib.hid (World.ownsRow_nil _ _ _ _), HOW, Lib.hid (HQ.out.mono (fun _ _ f => f.elim)), Nat.le_refl _⟩
    case round =>
      obtain ⟨k, ao, ac, hk, rfl, rfl, hac, hmx, hao, hrow, hW, hO, hsz⟩ := hrel
      by_cases hlt : k < n
      · obtain ⟨wz, hwz⟩ : ∃ x, x = wr.alloc (.cells #[.int .i64 k] 3) := ⟨_, rfl⟩
        have hb10 := World.alloc_heap_new wr (.cells #[.int .i64 k] 3)
        have hPa := (Only.refl (fun _ => False) wr).alloc (.cells #[.int .i64 k] 3)
        rw [← hwz] at hb10 hPa
        obtain ⟨B10, hB10⟩ : ∃ B, B = wr.heap.size := ⟨_, rfl⟩
        rw [← hB10] at hb10
        have hs10 := lt_of_block hb10
        have hbest := best_any 63 #[.pointer (some ⟨B6, 0, none⟩), .pointer (some ⟨B10, 0, none⟩), .pointer (some ⟨B7, 0, none⟩)] (behF c L k) 180 (fun W => OpenW (.slice a n cap) c L base hi b g B6 B7 W ∧ Only (fun k => base ≤ k ∧ k < hi) wz W) (fun k => base ≤ k ∧ k < hi) wz (enters_of Try.func63 (by kernel_rfl) rfl)
          (fun u W hu hW => (behind1_any _ c L base hi b g B6 B7 B10 k u W HG.out HL.out HLB.out hW.1 (hW.2.heap hb10 (fun e => by omega)) hhg hh6 hh7 (by omega) hu (by omega)).mono (fun e W' h => ⟨h.1, ⟨h.2.1, hW.2.trans h.2.2⟩, h.2.2⟩))
          (fun e => by have h1 := e.2; omega)
          (fun u hu => by have h1 := mostOf_bd HG.out.1 HG.out.2.2 (k + 1 + u); have h2 := HLB.out u; unfold behF; omega)
          ⟨(hW.out.pure hPa).pure ((Only.refl (fun _ => False) wz).alloc _), (Only.refl _ wz).alloc _⟩ (by omega)
        have hts := behTo_succ c L k
        obtain ⟨z, hz⟩ : ∃ z, bestTo (behF c L k) 180 = z := ⟨_, rfl⟩
        rw [hz] at hbest hts
        have HTS := Lib.hid hts; have HWZ := Lib.hid hwz; have HB10 := Lib.hid hB10; have HPA := Lib.hid hPa
        clear hts hz hwz hB10 hPa hb10
        go_wp2_with fail
        rw [← HWZ.out, ← HB10.out]
        refine hbest.mono ?_
        rintro e w4 ⟨rfl, hW4, hO4⟩
        have hO4' : Only (fun k => base ≤ k ∧ k < hi) wr w4 := (HPA.out.mono (fun _ _ f => f.elim)).trans hO4
        have HROW := Lib.hid (owns_keep hrow.out hO4' (fun g hg e => by have h2 := owns_lt hrow.out g hg; have := e.2; omega))
        have HW4 := Lib.hid hW4
        have HO4 := Lib.hid (hO.out.trans (hO4'.mono (fun _ _ e => e.1)))
        have hs4 : wr.heap.size ≤ w4.heap.size := hO4'.size
        clear hbest hW4 hO4 hO4' hrow hW hO
        go_wp2_with (at_builtin; refine wpList_append_own_at _ rfl _ _ 22 rfl w3.heap.size 2 i0 (.int .i64 0) 1 8 Try.underlying22 hi0 hz0 hz1 hz2 rfl (by decide) _ _ _ rfl (owns_pure HROW.out ((Only.refl _ w4).alloc _)) ⟨w4.heap.size, 0, none⟩ 1 1 [_] rfl rfl (cell_one_new _ _ _) ?_ ?_ ?_ ?_ ?_)
        · intro u hu; simp at hu; subst hu; rfl
        · unfold maxLen; omega
        · omega
        · simp; omega
        intro v' w5 hown hg _ _
        obtain ⟨ao', ac', rfl, hle', hmx', hn', _⟩ := owns_form hown
        have hO5 : Only (fun i => (Value.slice ao k ac).ownBlock = some i) w4 w5 := ((Only.refl (fun i => (Value.slice ao k ac).ownBlock = some i) w4).alloc _).grown hg (fun k e => .inl e)
        have hne : ∀ j, j < w3.heap.size → ¬ (Value.slice ao k ac).ownBlock = some j := fun j hj e => by have := owns_lt HROW.out j e; omega
        have HW5 := Lib.hid (⟨HW4.out.made.keep hO5 (fun j h1 h2 => hne j (by omega)), hO5.heap HW4.out.row (hne g (by have := lt_of_block HOW.out.row; omega)), HW4.out.ints.keep hO5 (fun j hj => hne j (by have := HOW.out.le; omega)), hO5.heap HW4.out.b6 (hne B6 (lt_of_block HOW.out.b6)), hO5.heap HW4.out.b7 (hne B7 (lt_of_block HOW.out.b7)), Nat.le_trans HW4.out.le hO5.size⟩ : OpenW (.slice a n cap) c L base hi b g B6 B7 w5)
        have HO5 := Lib.hid (HO4.out.trans (hO5.mono (fun j _ e => by have := owns_lt HROW.out j e; have := HOW.out.le; omega)))
        have HR5 := Lib.hid (show w5.ownsRow w3.heap.size 2 1 (.slice ao' (k + 1) ac') (k + 1) ((behTo c L (k + 1)).map (.int .i64)) from by rw [HTS.out, List.map_append]; exact hown)
        have hs5 : w3.heap.size ≤ w5.heap.size := Nat.le_trans (by omega) hO5.size
        clear hown hg hO5 hne
        go_wp2
        go_roundw
        case rel => exact ⟨k + 1, ao', ac', by omega, by go_num, rfl, hle', hmx', hn', HR5, HW5, HO5, hs5⟩
        case measure => simp [intOf]; omega
      · obtain rfl : n = k := by omega
        have HX := Lib.hid (show R = (behTo c L n, 0) from HD2.out)
        have HP := Lib.hid (show Pure w wr from (Only.refl (fun _ => False) w).trans' hO.out (fun i hi e => by omega))
        go_wp2
        go_ret2
        exact ⟨_, by rw [HX.out]; rfl, by rw [HX.out]; rw [behTo_len]; exact owns_le hrow.out hwb6, HP.out⟩
  · obtain ⟨rfl, rfl⟩ := HNE.out hs0
    have hsb : (s == 0) = false := by simpa using hs0
    have HX := Lib.hid (show R = ([], s) from by rw [HD.out, if_pos hs0])
    go_wp2
    go_ret2
    exact ⟨.slice none 0 0, by rw [HX.out]; rfl, by rw [HX.out]; exact World.ownsRow_nil _ _ _ _, (Q2.out.alloc _).alloc _⟩
end Go.Proofs.Ytcephfmafmmilaa
