/-
  open.
-/
import Derived.Test.YtcephfmafmmilaaLz
namespace Go.Proofs.Ytcephfmafmmilaa
open Go.RowKit Go.Shelf

theorem rate_bd {c : List Int} (hg : GoodC c) (comes : Bool) : 0 ≤ (rateOf c comes).1 ∧ (rateOf c comes).1 ≤ 1000 ∧ 0 ≤ (rateOf c comes).2 ∧ (rateOf c comes).2 ≤ 1000 := rateTo_bd comes hg.1 hg.2.1 hg.2.2 c.length hg.2.1

set_option maxHeartbeats 1000000 in
set_option maxRecDepth 100000 in
theorem open1_any (D : Nat → Prop) (B : Nat) (o : Int × Int) (v : Value) (c : List Int) (w : World) (hB : w.heap[B]? = some (.cells #[.int .i64 o.1, .int .i64 o.2] 42)) (hv : Ints D w v c) (hg : GoodC c) (ho : 0 ≤ o.1 ∧ o.1 ≤ 1000 ∧ 0 ≤ o.2 ∧ o.2 ≤ 1000) :
    Calls Try.prog 78 #[v, .pointer (some ⟨B, 0, none⟩)] w fun e w' => e = .returned (.bool (greaterB o (rateOf c false))) ∧ Pure w w' := by
  have d0 : w.cell? ⟨B, 0, none⟩ = some (.int .i64 o.1) := cell_of_row _ _ 0 _ _ _ hB
  have d1 : w.cell? ⟨B, 1, none⟩ = some (.int .i64 o.2) := cell_of_row _ _ 1 _ _ _ hB
  have hra := fun W (hW : Pure w W) => rate_any D v c false W (hv.pure hW) hg.1 hg.2.1 hg.2.2
  have hgr := fun W => greater_any o (rateOf c false) W ho (rate_bd hg false)
  obtain ⟨a, n, cap, rfl⟩ := hv.form
  obtain ⟨r, hr⟩ : ∃ r, rateOf c false = r := ⟨_, rfl⟩
  simp only [hr] at hra hgr
  rw [hr]
  obtain ⟨R, hR⟩ : ∃ R, greaterB o r = R := ⟨_, rfl⟩
  simp only [hR] at hgr
  rw [hR]
  have HRA := Lib.hid hra; have HGR := Lib.hid hgr
  have g0 := fun g => grow_cell d0 g; have g1 := fun g => grow_cell d1 g
  clear hra hgr hr hR hB hv ho
  go_enter Try.func78, Try.ntmps78
  go_wp2_with fail
  refine mixed_start (by kernel_rfl) ?_
  refine mixed_take [0, 1] (by kernel_rfl) (Only.refl _ _).drew (fun d _ _ _ _ h => by cases d <;> exact h) 3 (by kernel_rfl) ?_
  simp only [picks, List.drop_succ_cons, List.drop_zero, List.take_succ_cons, List.take_zero, List.cons_append, List.nil_append]
  repeat (go_big_quiet_step (fail))
  refine wpQuiet_nil ?_
  refine mixed_force (i := 2) (by kernel_rfl) rfl ?_
  go_wp2_with fail
  refine (HRA.out w.drew (Only.refl _ _).drew).mono ?_
  rintro e w1 ⟨rfl, P1⟩
  have Q1 := Lib.hid ((Only.refl (fun _ => False) w).drew.trans P1)
  clear P1 g0 g1
  go_wp2_with fail
  refine ⟨Q1.out, ?_⟩
  refine mixed_force (i := 3) (by kernel_rfl) rfl ?_
  go_wp2_with fail
  refine (HGR.out w1).mono ?_
  rintro e w2 ⟨rfl, P2⟩
  have Q2 := Lib.hid (Q1.out.trans P2)
  clear P2
  go_wp2_with fail
  refine ⟨Q2.out, ?_⟩
  refine mixed_take [4] (by kernel_rfl) Q2.out (fun d _ _ _ _ h => by cases d <;> exact h) 0 (by kernel_rfl) ?_
  simp only [picks, List.drop_succ_cons, List.drop_zero, List.take_succ_cons, List.take_zero, List.cons_append, List.nil_append]
  repeat (go_big_quiet_step (fail))
  refine wpQuiet_nil ?_
  refine wpAnyG_done (by kernel_rfl) ?_
  go_wp2
  go_ret
  exact ⟨rfl, Q2.out⟩

set_option maxHeartbeats 1000000 in
set_option maxRecDepth 100000 in
theorem indexRows_any (g : Nat) (lb : Array Value) (p : List Int → Bool) (D : Nat → Prop) (v : Value) (ls : List (List Int)) (w : World) (hE : ∀ args w, (callFunc g args).run Try.prog w = .ok (.enter g args) w) (hv : Lists D w v ls)
    (hO : ∀ W, Pure w W → ∀ i, i < ls.length → ∀ u, Ints D W u (lAt ls i) → Calls Try.prog g (#[u] ++ lb) W fun e w' => e = .returned (.bool (p (lAt ls i))) ∧ Pure W w') :
    Calls Try.prog 83 #[v, .func (.func g) #[] lb] w fun e w' => e = .returned (.int .i64 (idxFrom p ls 0)) ∧ Pure w w' := by
  obtain ⟨a, len, cap, rfl, hlen, _, hm, hc⟩ := hv
  have HL := Lib.hid hlen; have HC := Lib.hid hc; have HO := Lib.hid hO; have HE := Lib.hid hE
  clear hlen hc hO
  go_enter Try.func83, Try.ntmps83
  go_wp2_with fail
  go_loopw [8] (fun i wr => ∃ k : Nat, k ≤ len ∧ i = .int .i64 k ∧ Hid (idxFrom p ls 0 = idxFrom p (ls.drop k) k) ∧ Hid (Pure w wr)) (fun i _ => len - (intOf i).toNat)
  case atStart => exact ⟨0, Nat.zero_le _, rfl, Lib.hid (by simp), Lib.hid (Only.refl _ _)⟩
  case round =>
    obtain ⟨k, hk, rfl, hI, hP⟩ := hrel
    by_cases hlt : k < len
    · obtain ⟨b, off, u, rfl, _, hcell, hu⟩ := HC.out k hlt
      have hstep := Lib.hid (idx_step p ls k (lAt ls k) (by unfold lAt; rw [List.getElem?_eq_getElem (by rw [← HL.out]; exact hlt)]; rfl))
      have k0 := hP.out.cell hcell (fun f => f)
      have hcl := HO.out wr hP.out k (by rw [← HL.out]; exact hlt) u (hu.pure hP.out)
      obtain ⟨u1, u2, u3, rfl⟩ := hu.form
      obtain ⟨z, hz⟩ : ∃ z, p (lAt ls k) = z := ⟨_, rfl⟩
      rw [hz] at hcl
      have HZ := Lib.hid hz
      clear hz hcell hu
      go_wp2_with fail
      refine hcl.mono ?_
      rintro e w2 ⟨rfl, P2⟩
      have HP2 := Lib.hid (hP.out.trans P2)
      clear hcl P2 k0 hP
      cases z with
      | true =>
        go_wp2
        go_ret
        exact ⟨by rw [hI.out, hstep.out, HZ.out]; rfl, HP2.out⟩
      | false =>
        go_wp2
        go_roundw
        case rel => exact ⟨k + 1, by omega, by go_num, Lib.hid (by rw [hI.out, hstep.out, HZ.out]; rfl), HP2⟩
        case measure => simp [intOf]; omega
    · have hk' : ls.drop k = [] := List.drop_eq_nil_of_le (by rw [← HL.out]; omega)
      have HX := Lib.hid (show idxFrom p ls 0 = -1 from by rw [hI.out, hk']; rfl)
      go_wp2
      go_ret
      exact ⟨by rw [HX.out]; rfl, hP.out⟩
theorem containsRows_any (g : Nat) (lb : Array Value) (p : List Int → Bool) (D : Nat → Prop) (v : Value) (ls : List (List Int)) (w : World) (hE : ∀ args w, (callFunc g args).run Try.prog w = .ok (.enter g args) w) (hv : Lists D w v ls)
    (hO : ∀ W, Pure w W → ∀ i, i < ls.length → ∀ u, Ints D W u (lAt ls i) → Calls Try.prog g (#[u] ++ lb) W fun e w' => e = .returned (.bool (p (lAt ls i))) ∧ Pure W w') :
    Calls Try.prog 77 #[v, .func (.func g) #[] lb] w fun e w' => e = .returned (.bool (ls.any p)) ∧ Pure w w' := by
  have hx := idxFrom_ge p ls 0 (Int.le_refl _)
  have hI := indexRows_any g lb p D v ls w hE hv hO
  obtain ⟨a, n, c, rfl⟩ : ∃ a n c, v = .slice a n c := by obtain ⟨a, n, c, h, _⟩ := hv; exact ⟨a, n, c, h⟩
  have hd : decide (0 ≤ idxFrom p ls 0) = ls.any p := by rw [Bool.eq_iff_iff]; simpa using hx
  obtain ⟨q, hq⟩ : ∃ q, idxFrom p ls 0 = q := ⟨_, rfl⟩
  rw [hq] at hI hd
  have HD := Lib.hid hd
  clear hx hE hO hv hq hd
  go_enter Try.func77, Try.ntmps77
  go_wp2_with fail
  refine hI.mono ?_
  rintro e w' ⟨rfl, P⟩
  have HP := Lib.hid P
  clear hI P
  go_wp2
  go_ret
  exact ⟨by simp [← HD.out], HP.out⟩

/-- What open hands back, where all is right. -/
def Opened (v : Value) (c : List Int) (ch : List (List Int)) (w w' : World) (x y : Value) : Prop :=
  ∃ base hi b g, x = .pointer (some ⟨b, 0, none⟩) ∧ y = .slice (some ⟨g, 0, none⟩) 361 361 ∧ w.heap.size ≤ base ∧ base ≤ hi ∧ hi ≤ g ∧ Made c v base hi b w' ∧ w'.heap[g]? = some (.cells ((leasts ch 360).map (Value.int .i64)).toArray 2 (0, 0)) ∧ Ints (fun k => k < base) w' v c ∧ GoodC c ∧ (∀ i, i < ch.length → GoodC (lAt ch i)) ∧ 1 ≤ ch.length

set_option maxHeartbeats 2000000 in
set_option maxRecDepth 100000 in
theorem open_any (D D1 : Nat → Prop) (v v1 : Value) (c : List Int) (ch : List (List Int)) (w : World) (hv : Ints D w v c) (hv1 : Lists D1 w v1 ch) :
    Calls Try.prog 59 #[v, v1] w fun e w' => ∃ x y, e = .returned (.tuple #[x, y, .int .i64 (openE c ch)]) ∧ (openE c ch ≠ 0 → x = .pointer none ∧ y = .slice none 0 0) ∧ (openE c ch = 0 → Opened v c ch w w' x y) ∧ Pure w w' := by
  have hdef : openE c ch = if checkCurve c ≠ 0 then checkCurve c else if checkChain ch ≠ 0 then checkChain ch else if ch.any (fun x => greaterB (rateOf c true) (rateOf x false)) then 18 else 0 := rfl
  have hC := checkCurve_any D v c w hv
  have hgd := @good_of c
  have hgc := @chain_of ch
  have hch := fun W (hW : Pure w W) => checkChain_any D1 v1 ch W (hv1.pure hW)
  have hR := hv; have hR1 := hv1
  obtain ⟨a, n, cap, rfl⟩ := hv.form
  obtain ⟨a1, n1, cap1, rfl⟩ : ∃ a n c, v1 = .slice a n c := by obtain ⟨a, n, c, h, _⟩ := hv1; exact ⟨a, n, c, h⟩
  obtain ⟨s, hs⟩ : ∃ s, checkCurve c = s := ⟨_, rfl⟩
  obtain ⟨p, hp⟩ : ∃ p, checkChain ch = p := ⟨_, rfl⟩
  obtain ⟨R, hRR⟩ : ∃ R, openE c ch = R := ⟨_, rfl⟩
  rw [hRR] at hdef ⊢
  rw [hs] at hC hdef hgd
  rw [hp] at hdef hgc
  simp only [hp] at hch
  have HD := Lib.hid hdef; have HGD := Lib.hid hgd; have HGC := Lib.hid hgc; have HCH := Lib.hid hch; have HR := Lib.hid hR; have HR1 := Lib.hid hR1
  clear hdef hgd hgc hch hR hR1 hv hv1 hs hp hRR
  go_enter Try.func59, Try.ntmps59
  go_wp2_with fail
  refine hC.mono ?_
  rintro e w1 ⟨rfl, P1⟩
  have Q1 := Lib.hid P1
  clear hC P1
  by_cases hs0 : s = 0
  · subst hs0
    have HG := Lib.hid (HGD.out rfl)
    have hc2 := HCH.out w1 Q1.out
    go_wp2_with fail
    refine hc2.mono ?_
    rintro e w2 ⟨rfl, P2⟩
    have Q2 := Lib.hid (Q1.out.trans P2)
    clear hc2 P2
    by_cases hp0 : p = 0
    · subst hp0
      have HGG := Lib.hid (HGC.out rfl)
      have hd := HD.out
      rw [if_neg (by simp), if_neg (by simp)] at hd
      have HD2 := Lib.hid hd
      have hra := rate_any D _ c true w2 (HR.out.pure Q2.out) HG.out.1 HG.out.2.1 HG.out.2.2
      have HRB := Lib.hid (rate_bd HG.out true)
      obtain ⟨⟨o1, o2⟩, ho⟩ : ∃ o, rateOf c true = o := ⟨_, rfl⟩
      rw [ho] at hra HRB HD2
      dsimp only at hra
      clear hd ho
      go_wp2_with fail
      refine hra.mono ?_
      rintro e w3 ⟨rfl, P3⟩
      have hP4 := (Q2.out.trans P3).alloc (.cells #[.int .i64 o1, .int .i64 o2] 42)
      have hB4 := World.alloc_heap_new w3 (.cells #[.int .i64 o1, .int .i64 o2] 42)
      have hcn := containsRows_any 78 #[.pointer (some ⟨w3.heap.size, 0, none⟩)] (fun x => greaterB (o1, o2) (rateOf x false)) D1 _ ch (w3.alloc (.cells #[.int .i64 o1, .int .i64 o2] 42)) (enters_of Try.func78 (by kernel_rfl) rfl) (HR1.out.pure hP4)
        (fun W hW i hi u hu => open1_any D1 w3.heap.size (o1, o2) u (lAt ch i) W (hW.heap hB4 (fun f => f)) hu (HGG.out.2.2 i hi) HRB.out)
      have HP4 := Lib.hid hP4
      obtain ⟨z, hz⟩ : ∃ z, ch.any (fun x => greaterB (o1, o2) (rateOf x false)) = z := ⟨_, rfl⟩
      rw [hz] at hcn HD2
      clear hra P3 hP4 hB4 hz
      go_wp2_with fail
      refine hcn.mono ?_
      rintro e w5 ⟨rfl, P5⟩
      have Q5 := Lib.hid (HP4.out.trans P5)
      clear hcn P5
      cases z with
      | true =>
        have HX := Lib.hid (show R = 18 from by rw [HD2.out]; rfl)
        go_wp2
        go_ret3
        exact ⟨.pointer none, .slice none 0 0, by rw [HX.out]; rfl, fun _ => ⟨rfl, rfl⟩, fun h => absurd (HX.out.symm.trans h) (by decide), Q5.out⟩
      | false =>
        have HX := Lib.hid (show R = 0 from by rw [HD2.out]; rfl)
        have hnb := newBoard_any _ _ c w5 (HR.out.pure Q5.out) HG.out
        go_wp2_with fail
        refine hnb.mono ?_
        rintro e w6 ⟨b, rfl, hM, P6⟩
        have hls := leasts_any D1 _ ch 360 w6 (HR1.out.pure (Q5.out.trans P6)) HGG.out.1 (fun i hi => (HGG.out.2.2 i hi).1) (fun i hi => (HGG.out.2.2 i hi).2.2) (by omega)
        have HI := Lib.hid ((HR.out.pure Q5.out).below.pure P6)
        have HM := Lib.hid hM
        have Q6 := Lib.hid (Q5.out.trans P6)
        have HS := Lib.hid (And.intro Q5.out.size P6.size)
        clear hnb P6 hM
        go_wp2_with fail
        refine hls.mono ?_
        rintro e w7 ⟨g, hg, rfl, hh, P7⟩
        have HH := Lib.hid hh
        have HI7 := Lib.hid (HI.out.pure P7)
        have HM7 := Lib.hid (HM.out.pure P7)
        have Q7 := Lib.hid (Q6.out.trans P7)
        clear hls hh P7
        go_wp2
        go_ret3
        exact ⟨_, _, by rw [HX.out]; rfl, fun h => absurd HX.out h, fun _ => ⟨w5.heap.size, w6.heap.size, b, g, rfl, rfl, HS.out.1, HS.out.2, hg, HM7.out, HH.out, HI7.out, HG.out, HGG.out.2.2, HGG.out.1⟩, Q7.out⟩
    · have hpb : (p == 0) = false := by simpa using hp0
      have HX := Lib.hid (show R = p from by rw [HD.out, if_neg (by simp), if_pos hp0])
      go_wp2
      go_ret3
      exact ⟨.pointer none, .slice none 0 0, by rw [HX.out]; rfl, fun _ => ⟨rfl, rfl⟩, fun h => absurd (HX.out.symm.trans h) hp0, Q2.out⟩
  · have hsb : (s == 0) = false := by simpa using hs0
    have HX := Lib.hid (show R = s from by rw [HD.out, if_pos hs0])
    go_wp2
    go_ret3
    exact ⟨.pointer none, .slice none 0 0, by rw [HX.out]; rfl, fun _ => ⟨rfl, rfl⟩, fun h => absurd (HX.out.symm.trans h) hs0, Q1.out⟩
end Go.Proofs.Ytcephfmafmmilaa
