/-
  Serving: the function.
-/
import Derived.Test.YtbiffhekbnmffaaCl
import Derived.Deep.DeepCutAuto
import Derived.Deep.CutBlock
import Derived.Outline
namespace Go.Proofs.Ytbiffhekbnmffaa
open Go.RowKit Go.Shelf

/-- The minutes that are handed out, and who waits. -/
structure Serving (w : World) (G Mb n : Nat) (l : List Person) (o : List Int) (W : List Nat) (wr : World) : Prop where
  out : wr.ownsRow w.heap.size 2 1 (.slice (some ⟨G, 0, none⟩) n n) n (o.map (.int .i64))
  map : MapF slipV wr Mb (waitF l W)
  pure : Pure w wr
  beyond : w.heap.size ≤ Mb
theorem Serving.only {w wr w' : World} {G Mb n : Nat} {l : List Person} {o : List Int} {W W' : List Nat} {S : Nat → Prop} (h : Serving w G Mb n l o W wr) (ho : Only S wr w') (hG : ¬ S G) (hS : ∀ k, k < w.heap.size → ¬ S k) (hm : MapF slipV w' Mb (waitF l W')) : Serving w G Mb n l o W' w' :=
  ⟨owns_keep h.out ho (fun k hk => by have : G = k := by simpa [Value.ownBlock] using hk
                                      subst this; exact hG), hm, h.pure.trans' ho (fun i hi hs => absurd hs (hS i hi)), h.beyond⟩
theorem Serving.keep {w wr w' : World} {G Mb n : Nat} {l : List Person} {o : List Int} {W : List Nat} (h : Serving w G Mb n l o W wr) (hp : Pure wr w') : Serving w G Mb n l o W w' := h.only hp (fun f => f) (fun _ _ f => f) (h.map.keep hp (fun f => f))
theorem Serving.ne {w wr : World} {G Mb n : Nat} {l : List Person} {o : List Int} {W : List Nat} (h : Serving w G Mb n l o W wr) : G ≠ Mb := fun e => by
  obtain ⟨E, c, hm, _⟩ := h.map
  exact owns_not_row h.out hm.heap (fun cur e' => by cases e') (by simp [Value.ownBlock, e])
theorem Serving.put {w wr : World} {G Mb n : Nat} {l : List Person} {o : List Int} {W W' : List Nat} {ob : Obj} (h : Serving w G Mb n l o W wr) (hm : MapF slipV (wr.putObj Mb ob) Mb (waitF l W')) : Serving w G Mb n l o W' (wr.putObj Mb ob) :=
  h.only (putObj_only wr Mb ob) h.ne (fun k hk e => by have := h.beyond; omega) hm
theorem Serving.store {w wr : World} {G Mb n : Nat} {l : List Person} {o : List Int} {W : List Nat} (h : Serving w G Mb n l o W wr) (i : Nat) (x : Int) : Serving w G Mb n l (o.set i x) W (wr.setCell ⟨G, i, none⟩ (.int .i64 x)) := by
  have hO : Only (fun k => k = G) wr (wr.setCell ⟨G, i, none⟩ (.int .i64 x)) := (Only.refl (fun k => k = G) wr).setCell (p := ⟨G, i, none⟩) (.inl rfl) _
  refine ⟨?_, h.map.keep hO (Ne.symm h.ne), h.pure.trans' hO (fun k hk e => by have := (owns_lt h.out G rfl).1; omega), h.beyond⟩
  have := (h.out.stored i (.int .i64 x)).1
  rwa [← List.map_set] at this
theorem Serving.congr {w wr : World} {G Mb n : Nat} {l : List Person} {o : List Int} {W W' : List Nat} (h : Serving w G Mb n l o W wr) (e : ∀ x, waitF l W x = waitF l W' x) : Serving w G Mb n l o W' wr := ⟨h.out, h.map.congr e, h.pure, h.beyond⟩
theorem Serving.cell {w wr : World} {G Mb n : Nat} {l : List Person} {o : List Int} {W : List Nat} (h : Serving w G Mb n l o W wr) (i : Nat) (hi : i < n) : wr.cell? ⟨G, i, none⟩ = some (.int .i64 (o[i]?.getD 0)) ∧ wr.frozen? ⟨G, i, none⟩ = false := by
  have hl := h.out.1
  have h1 := h.out.cellAt i (by omega)
  have hi' : i < o.length := by simp at hl; omega
  exact ⟨by rw [h1]; simp [hi'], h.out.frozenAt i⟩

/-- The same, while the map is swept: block r is the iterator. -/
structure Sweeping (w : World) (G Mb r n : Nat) (l : List Person) (o : List Int) (W : List Nat) (m : Int) (pre : List Slip) (wr : World) : Prop where
  out : wr.ownsRow w.heap.size 2 1 (.slice (some ⟨G, 0, none⟩) n n) n (o.map (.int .i64))
  pure : Pure w wr
  beyond : w.heap.size ≤ Mb
  after : w.heap.size ≤ r
  nodup : pre.Nodup
  rng : ∃ left c f, RangeF slipV wr Mb r f left c ∧ (∀ x, f x = sweepF l W m pre x) ∧ ∀ x, x ∈ pre ↔ (x ∈ W.map (wkey l) ∧ ¬ left x)

set_option maxHeartbeats 4000000 in
set_option maxRecDepth 100000 in
theorem serve_any (D D' : Nat → Prop) (b : Nat) (h : Hall) (k : Nat) (come : List Int) (cv : Value) (w : World) (hF : FloorAt D w b h) (hc : Ints D' w cv come) (hlen : come.length = h.people.length) (h30 : h.people.length ≤ 30) (hm0 : 1 ≤ h.minutes) (hm : h.minutes ≤ 60) (hk : k ≤ 30) :
    Calls Try.prog 42 #[.pointer (some ⟨b, 0, none⟩), .int .i64 k, cv] w fun e w' => ∃ v, e = .returned (.tuple #[v, .int .i64 (serveOf h k come).2]) ∧ w'.ownsRow w.heap.size 2 1 v come.length ((serveOf h k come).1.map (.int .i64)) ∧ Pure w w' := by
  obtain ⟨a, n, cap, rfl, hn, _, hnm, hcc⟩ := hc
  obtain ⟨pv, hb, pa, pn, pc, rfl, hpn, _, hpm, hpc⟩ := hF
  obtain ⟨i0, hi, hz0, hz1, hz2⟩ := info_parts infoI64
  obtain ⟨M, hM⟩ : ∃ M : Nat, h.minutes = M := ⟨h.minutes.toNat, by omega⟩
  have hM60 : M ≤ 60 := by omega
  have hres : serveOf h k come = ((serveTo h.people k come M).1, (serveTo h.people k come M).2.1) := by unfold serveOf; rw [hM]; rfl
  rw [hres]
  dsimp only
  have d0 : w.cell? ⟨b, 0, none⟩ = some (.int .i64 M) := by rw [← hM]; exact cell_of_row _ _ _ _ _ _ hb
  have d1 : w.cell? ⟨b, 1, none⟩ = some (.slice pa pn pc) := cell_of_row _ _ _ _ _ _ hb
  have hn30 : n ≤ 30 := by omega
  have hpn30 : n = pn := by omega
  subst hpn30
  have hmm := @run_makeMap Try.prog
  have HN := Lib.hid hn; have HPN := Lib.hid hpn; have HC := Lib.hid hcc; have HP := Lib.hid hpc
  clear hres hn hpn hcc hpc hM hb hm0 hm h30 hlen
  go_enter Try.func42, Try.ntmps42
  go_wp2_with (at_make; refine wpList_make_full _ rfl _ _ 25 rfl w.heap.size 2 i0 (.int .i64 0) 1 Try.underlying25 hi hz0 hz1 .i64 .i64 _ _ n rfl rfl rfl rfl (by rw [hz2]; omega) (by unfold maxLen; omega) (Nat.le_refl _) ?_; intro w1 hown hg)
  have HS0 := Lib.hid (show Serving w w.heap.size w1.heap.size n h.people (serveTo h.people k come 0).1 (serveTo h.people k come 0).2.2 (w1.alloc (.map #[] 0)) from by
    have hP1 := pure_of_grown hg
    refine ⟨?_, ?_, hP1.trans ((Only.refl _ w1).alloc _), hP1.size⟩
    · rw [made_zeros] at hown
      have : (serveTo h.people k come 0).1 = List.replicate n 0 := by rw [HN.out]; rfl
      rw [this]; exact World.ownsRow.alloc hown _
    · exact (MapF.made slipV w1).congr (fun x => by unfold waitF; simp [serveTo]))
  have hG : w.heap.size < w1.heap.size := by have := (owns_lt hown w.heap.size rfl).2; exact this
  clear hown hg hmm
  go_wp2
  go_loopw [11, 9] (fun i s wr => ∃ m : Nat, m ≤ M ∧ i = .int .i64 (m + 1) ∧ s = .int .i64 (serveTo h.people k come m).2.1 ∧ Serving w w.heap.size w1.heap.size n h.people (serveTo h.people k come m).1 (serveTo h.people k come m).2.2 wr) (fun i _ _ => M + 1 - (intOf i).toNat)
  case atStart => exact ⟨0, Nat.zero_le _, rfl, rfl, HS0.out⟩
  case round =>
    clear HS0
    obtain ⟨m, hm, rfl, rfl, hS⟩ := hrel
    have e0 := hS.pure.cell d0 (fun f => f)
    have e1 := hS.pure.cell d1 (fun f => f)
    have hsb := shut_bd h.people k come m
    have hfine := fine_serve h.people k come m
    have HF := Lib.hid hfine; clear hfine
    by_cases hlt : m < M
    · obtain ⟨o, ho⟩ : ∃ o, (serveTo h.people k come m).1 = o := ⟨_, rfl⟩
      obtain ⟨sh, hsh⟩ : ∃ s, (serveTo h.people k come m).2.1 = s := ⟨_, rfl⟩
      obtain ⟨W, hW⟩ : ∃ W, (serveTo h.people k come m).2.2 = W := ⟨_, rfl⟩
      have hst : serveTo h.people k come (m + 1) = minuteStep h.people k come ((m : Int) + 1) (o, sh, W) := by rw [← ho, ← hsh, ← hW]; rfl
      rw [ho, hW] at hS HF
      rw [hsh] at hsb
      rw [hsh]
      have hsb2 : sh ≤ 1800 := by
        have h1 := hsb.2
        rw [← HN.out] at h1
        have h2 : (m : Int) * n ≤ 60 * 30 := Int.mul_le_mul (by omega) (by omega) (by omega) (by omega)
        omega
      have hsb0 := hsb.1
      have HST := Lib.hid hst
      have hA := hS.congr (arrive_start (l := h.people) (come := come) (m := (m : Int) + 1) HF.out.2.2)
      have HA := Lib.hid hA
      have h26 : decide ((m : Int) + 1 ≤ (M : Int)) = true := by simp; omega
      clear hst ho hsh hW hS hA hsb
      go_wp2_with fail
      clear h26
      clear e0 e1
      go_loopw [31] (fun i w2 => ∃ j : Nat, j ≤ n ∧ i = .int .i64 j ∧ Serving w w.heap.size w1.heap.size n h.people o (arriveTo h.people come ((m : Int) + 1) W j) w2) (fun i _ => n - (intOf i).toNat)
      case atStart => exact ⟨0, Nat.zero_le _, rfl, HA.out⟩
      case round =>
        clear HA
        obtain ⟨j, hj, rfl, hS2⟩ := hrel
        have e0 := hS2.pure.cell d0 (fun f => f)
        have e1 := hS2.pure.cell d1 (fun f => f)
        by_cases hlt2 : j < n
        · obtain ⟨g, off, rfl, _, c0⟩ := HC.out j hlt2
          obtain ⟨g2, off2, rfl, _, _, _, c1⟩ := HP.out j hlt2
          have k0 := hS2.pure.cell c0 (fun f => f)
          have k1 := hS2.pure.cell c1 (fun f => f)
          have hcm : comes h.people come ((m : Int) + 1) j = (decide (come[j]?.getD 0 = (m : Int) + 1) && decide ((m : Int) + 1 ≤ (pAt h.people j).til)) := rfl
          have hkey : wkey h.people j = ((pAt h.people j).til, (j : Int)) := rfl
          obtain ⟨x, hx⟩ : ∃ x, come[j]?.getD 0 = x := ⟨_, rfl⟩
          obtain ⟨til, ht⟩ : ∃ x, (pAt h.people j).til = x := ⟨_, rfl⟩
          rw [hx] at k0 hcm
          rw [ht] at k1 hcm hkey
          have HCM := Lib.hid hcm; have HKEY := Lib.hid hkey
          clear hx ht hcm hkey c0 c1
          by_cases hx1 : x = (m : Int) + 1
          · by_cases hx2 : (m : Int) + 1 ≤ til
            · obtain ⟨ob, hup, hMF⟩ := hS2.map.update slip_law Try.underlying99 (wkey h.people j) (.int .i64 1)
              have HS2 := Lib.hid (hS2.put (hMF.congr (arrive_put (by rw [← HN.out]; exact hlt2) (by rw [HCM.out]; simp [hx1, hx2]))))
              rw [HKEY.out] at hup
              unfold slipV at hup
              clear hS2 hMF
              have HX := Lib.hid hx1
              subst hx1
              go_wp2
              go_roundw
              case rel => exact ⟨j + 1, by omega, by go_num, HS2.out⟩
              case measure => simp [intOf]; omega
            · have HS2 := Lib.hid (hS2.congr (arrive_skip (by rw [HCM.out]; simp [hx2])))
              clear hS2
              have HX := Lib.hid hx1
              subst hx1
              go_wp2
              go_roundw
              case rel => exact ⟨j + 1, by omega, by go_num, HS2.out⟩
              case measure => simp [intOf]; omega
          · have HS2 := Lib.hid (hS2.congr (arrive_skip (by rw [HCM.out]; simp [hx1])))
            have hx1' : (x == (m : Int) + 1) = false := by simpa using hx1
            clear hS2
            go_wp2
            go_roundw
            case rel => exact ⟨j + 1, by omega, by go_num, HS2.out⟩
            case measure => simp [intOf]; omega
        · rw [arrive_end (by rw [← HN.out]; omega)] at hS2
          have HS2 := Lib.hid hS2
          clear hS2 e0 e1
          obtain ⟨lw, hlw⟩ : ∃ p, takeK h.people ((m : Int) + 1) (o, arrive h.people come ((m : Int) + 1) W) k = p := ⟨_, rfl⟩
          have HLW := Lib.hid hlw
          go_upto_block 4 with (fail)
          go_cut [] (fun wc => Serving w w.heap.size w1.heap.size n h.people lw.1 lw.2 wc)
          case first =>
            go_wp2_with fail
            go_loopw [66] (fun i w3 => ∃ q : Nat, q ≤ k ∧ i = .int .i64 q ∧ Serving w w.heap.size w1.heap.size n h.people (takeK h.people ((m : Int) + 1) (o, arrive h.people come ((m : Int) + 1) W) q).1 (takeK h.people ((m : Int) + 1) (o, arrive h.people come ((m : Int) + 1) W) q).2 w3) (fun i _ => k - (intOf i).toNat)
            case atStart => exact ⟨0, Nat.zero_le _, rfl, HS2.out⟩
            case round =>
              clear HS2
              obtain ⟨q, hq, rfl, hS3⟩ := hrel
              obtain ⟨w3, rfl⟩ : ∃ x : World, x = wr := ⟨_, rfl⟩
              have hfq := fine_take (l := h.people) (m := (m : Int) + 1) (fine_arrive h.people come ((m : Int) + 1) W o HF.out.1) q
              have htk : takeK h.people ((m : Int) + 1) (o, arrive h.people come ((m : Int) + 1) W) (q + 1) = takeStep h.people ((m : Int) + 1) (takeK h.people ((m : Int) + 1) (o, arrive h.people come ((m : Int) + 1) W) q) := rfl
              have hstk := takeK_stuck h.people ((m : Int) + 1) (o, arrive h.people come ((m : Int) + 1) W) k q hq
              obtain ⟨⟨oq, Wq⟩, hs⟩ : ∃ p, takeK h.people ((m : Int) + 1) (o, arrive h.people come ((m : Int) + 1) W) q = p := ⟨_, rfl⟩
              rw [hs] at hS3 hfq htk hstk
              rw [hlw] at hstk
              dsimp only at hS3 hstk
              by_cases hqk : q < k
              · by_cases hWq : Wq = []
                · have hst2 := hstk hWq
                  obtain ⟨N, hml, hN0⟩ := hS3.map.len (P := Try.prog) (ty := 3) Try.underlying99
                  obtain rfl : N = 0 := hN0.2 (fun x => by rw [hWq]; unfold waitF; simp)
                  have HS3 := Lib.hid (show Serving w w.heap.size w1.heap.size n h.people lw.1 lw.2 w3 from by rw [hst2]; exact hS3)
                  clear hst2 hstk htk hfq hS3 hN0 hs hWq
                  go_wp2
                  go_meet
                  exact HS3.out
                · obtain ⟨N, hml, hN0⟩ := hS3.map.len (P := Try.prog) (ty := 3) Try.underlying99
                  have hN1 : N ≠ 0 := fun e => by
                    have h1 := hN0.1 e
                    obtain ⟨y, hy⟩ := List.exists_mem_of_ne_nil _ hWq
                    exact absurd (h1 (wkey h.people y)) (waitF_some.2 (mem_wkey.2 hy))
                  have hN1' : 0 < N := by omega
                  have hN1'' : ((N : Int) == 0) = false := by simpa using hN1
                  have hbest := best_spec h.people Wq hWq
                  have hbl := hfq.2.2 _ hbest.1
                  rw [← HN.out] at hbl
                  have hmb := fun L hL => minS_best h.people Wq L hL hWq
                  have hWl : Wq.length ≤ 30 := by
                    have h1 := nodup_bound _ _ hfq.2.1 hfq.2.2
                    dsimp only at h1
                    rw [← HN.out] at h1; omega
                  have htk2 : takeK h.people ((m : Int) + 1) (o, arrive h.people come ((m : Int) + 1) W) (q + 1) = (oq.set (bestP h.people Wq) ((m : Int) + 1), Wq.filter (fun i => decide (i ≠ bestP h.people Wq))) := by rw [htk]; unfold takeStep; rw [if_neg hWq]
                  obtain ⟨bi, hbi⟩ : ∃ x, bestP h.people Wq = x := ⟨_, rfl⟩
                  rw [hbi] at hbl hmb htk2
                  have HTK := Lib.hid htk2; have HMB := Lib.hid hmb; have HS3 := Lib.hid hS3
                  have hkb : wkey h.people bi = (tilAt h.people bi, (bi : Int)) := rfl
                  obtain ⟨til, ht⟩ : ∃ x, tilAt h.people bi = x := ⟨_, rfl⟩
                  rw [ht] at hkb
                  have HKB := Lib.hid hkb
                  clear hkb ht htk2 htk hmb hstk hfq hS3 hN0 hs hWq hbest hbi hN1
                  go_wp2_with fail
                  refine (keys_any w1.heap.size _).mono ?_
                  rintro e w4 ⟨rfl, rfl⟩
                  have HS4 := Lib.hid (HS3.out.keep ((Only.refl (fun _ => False) w3).alloc (.cells #[.map (some w1.heap.size)] 99)))
                  have hcol := collect_any 78 #[.pointer (some ⟨w3.heap.size, 0, none⟩)] 30 (Tells (waitF h.people Wq)) (w3.alloc (.cells #[.map (some w1.heap.size)] 99)) (by decide) (enters_of Try.func78 (by kernel_rfl) rfl)
                    (fun W' hW' => keys1_stops 9 w3.heap.size w1.heap.size 30 _ W' (by decide) ((pure_of_below hW').cell (by simp) (fun f => f)) (HS4.out.map.keep (pure_of_below hW') (fun f => f)) (fun L hL hx => Nat.le_trans (waitF_N _ _ L hL hx) hWl))
                  go_wp2_with fail
                  refine hcol.mono ?_
                  rintro e w5 ⟨v5, L, rfl, hTL, ho5, P5⟩
                  have HS5 := Lib.hid (HS4.out.keep P5)
                  obtain ⟨hLne, hmin⟩ := HMB.out L hTL
                  have hle := least_any _ v5 L w5 (SliceAt.pairs (owns_slice ho5)) (by cases L with | nil => exact absurd rfl hLne | cons a r => simp)
                  rw [hmin, HKB.out] at hle
                  clear hcol ho5 hTL hLne hmin P5 HMB
                  go_wp2_with fail
                  refine hle.mono ?_
                  rintro e w6 ⟨rfl, P6⟩
                  have HS6 := Lib.hid (HS5.out.keep P6)
                  clear hle P6
                  obtain ⟨k0, f0⟩ := (HS6.out.keep ((Only.refl (fun _ => False) w6).alloc (.cells #[.int .i64 til, .int .i64 bi] 101))).cell bi hbl
                  have HS7 := Lib.hid ((HS6.out.store bi ((m : Int) + 1)).keep ((Only.refl (fun _ => False) _).alloc (.cells #[.int .i64 til, .int .i64 bi] 101)))
                  obtain ⟨ob, hdel, hMF⟩ := HS7.out.map.delete (P := Try.prog) (ty := 0) slip_law Try.underlying99 (wkey h.people bi)
                  have HS8 := Lib.hid (HS7.out.put (hMF.congr take_put))
                  rw [HKB.out] at hdel
                  unfold slipV at hdel
                  have hG6 : w.heap.size < w6.heap.size := (owns_lt HS6.out.out w.heap.size rfl).2
                  clear hMF
                  dsimp only
                  go_wp2
                  go_roundw
                  case rel => exact ⟨q + 1, by omega, by go_num, by rw [HTK.out]; exact HS8.out⟩
                  case measure => simp [intOf]; omega
              · obtain rfl : q = k := by omega
                rw [hlw] at hs
                subst hs
                have HS3 := Lib.hid hS3
                clear hS3 hfq htk hstk
                go_wp2
                go_meet
                exact HS3.out
          case rest =>
            have hS3 := hcut
            clear hcut HS2
            obtain ⟨w3, rfl⟩ : ∃ x : World, x = wc := ⟨_, rfl⟩
            have hfl := fine_take (l := h.people) (m := (m : Int) + 1) (fine_arrive h.people come ((m : Int) + 1) W o HF.out.1) k
            rw [hlw] at hfl
            have hres : serveTo h.people k come (m + 1) = (lw.1, sh + ((lw.2.filter fun i => decide (tilAt h.people i = (m : Int) + 1)).length : Nat), lw.2.filter fun i => decide (tilAt h.people i ≠ (m : Int) + 1)) := by
              rw [HST.out]; unfold minuteStep; rw [hlw]
            obtain ⟨o2, W2⟩ := lw
            dsimp only at hS3 hfl hres
            have hWl : W2.length ≤ 30 := by
              have h1 := nodup_bound _ _ hfl.2.1 hfl.2.2
              dsimp only at h1
              rw [← HN.out] at h1; omega
            have HRES := Lib.hid hres; have HFL := Lib.hid hfl; have HWL := Lib.hid hWl
            clear hres hfl hlw HLW HST hWl
            obtain ⟨ob, hrun, c0, hR0⟩ := hS3.map.range (P := Try.prog) Try.underlying99
            have HSW := Lib.hid (show Sweeping w w.heap.size w1.heap.size w3.heap.size n h.people o2 W2 ((m : Int) + 1) [] (w3.alloc ob) from by
              have hk := hS3.keep ((Only.refl (fun _ => False) w3).alloc ob)
              refine ⟨hk.out, hk.pure, hk.beyond, hS3.pure.size, List.nodup_nil, _, c0, _, hR0, fun x => sweep_start _ _ _ x, fun x => ⟨(fun hx => by cases hx), fun hx => absurd (waitF_some.2 hx.1) hx.2⟩⟩)
            clear hS3 hR0
            go_wp2_with fail
            clear hrun
            generalize w3.heap.size = r at HSW ⊢
            go_loopw [9] (fun s w4 => ∃ pre : List Slip, s = .int .i64 (sh + ((pre.filter fun x => decide (x.1 = (m : Int) + 1)).length : Nat)) ∧ Sweeping w w.heap.size w1.heap.size r n h.people o2 W2 ((m : Int) + 1) pre w4) (fun _ w4 => leftCount w4 w1.heap.size r)
            case atStart => exact ⟨[], by simp, HSW.out⟩
            case round =>
              clear HSW
              obtain ⟨pre, rfl, hSW⟩ := hrel
              obtain ⟨w4, rfl⟩ : ∃ x : World, x = wr := ⟨_, rfl⟩
              obtain ⟨left, c, f, hR, hf, hpre⟩ := hSW.rng
              have HSF := Lib.hid hf; have HPRE := Lib.hid hpre
              have hpl : (pre.filter fun x => decide (x.1 = (m : Int) + 1)).length ≤ 30 := by
                have h1 := List.length_filter_le (fun x : Slip => decide (x.1 = (m : Int) + 1)) pre
                have h2 := nodup_sub pre (W2.map (wkey h.people)) hSW.nodup (fun x hx => ((hpre x).1 hx).1)
                rw [List.length_map] at h2
                have := HWL.out
                omega
              clear hf hpre
              rcases hR.next (P := Try.prog) 0 with ⟨hno, hnx⟩ | ⟨x, v, w5, c5, hlx, hfx, hnx, hO, hsz, hR5, hmm5, hent⟩
              · have hall : ∀ x, x ∈ pre ↔ x ∈ W2.map (wkey h.people) := fun x => by rw [HPRE.out x]; exact ⟨fun hx => hx.1, fun hx => ⟨hx, hno x⟩⟩
                have hcnt := sweep_count h.people W2 ((m : Int) + 1) pre HFL.out.2.1 hSW.nodup hall
                have HEND := Lib.hid (show Serving w w.heap.size w1.heap.size n h.people (serveTo h.people k come (m + 1)).1 (serveTo h.people k come (m + 1)).2.2 w4 from by
                  rw [HRES.out]
                  exact ⟨hSW.out, hR.map.congr (fun x => (HSF.out x).trans (sweep_end _ _ _ _ hall x)), hSW.pure, hSW.beyond⟩)
                have hshut : (serveTo h.people k come (m + 1)).2.1 = sh + ((pre.filter fun x => decide (x.1 = (m : Int) + 1)).length : Nat) := by rw [HRES.out, hcnt]
                have HSHUT := Lib.hid hshut
                clear hshut hcnt hall hR hSW hno
                go_wp2
                go_roundw
                case rel => exact ⟨m + 1, by omega, by go_num, by rw [HSHUT.out], HEND.out⟩
                case measure => simp [intOf]; omega
              · have hxW : x ∈ W2.map (wkey h.people) := by
                  have h1 : f x ≠ none := by rw [hfx]; simp
                  rw [HSF.out] at h1
                  unfold sweepF at h1
                  by_cases hq : x ∈ W2.map (wkey h.people) ∧ ¬ (x ∈ pre ∧ x.1 = (m : Int) + 1)
                  · exact hq.1
                  · rw [if_neg hq] at h1; exact absurd rfl h1
                have hxp : x ∉ pre := fun hx => ((HPRE.out x).1 hx).2 hlx
                have hnd : (pre ++ [x]).Nodup := by
                  rw [List.nodup_append]
                  exact ⟨hSW.nodup, by simp, fun a ha b' hb' => by simp at hb'; subst hb'; intro e; subst e; exact hxp ha⟩
                have hmem : ∀ y, y ∈ pre ++ [x] ↔ (y ∈ W2.map (wkey h.people) ∧ ¬ (left y ∧ y ≠ x)) := fun y => by
                  rw [List.mem_append, HPRE.out y]
                  simp only [List.mem_singleton]
                  constructor
                  · rintro (⟨h1, h2⟩ | rfl)
                    · exact ⟨h1, fun h => h2 h.1⟩
                    · exact ⟨hxW, fun h => h.2 rfl⟩
                  · rintro ⟨h1, h2⟩
                    by_cases hy : y = x
                    · exact .inr hy
                    · exact .inl ⟨h1, fun h => h2 ⟨h, hy⟩⟩
                have hOf : ∀ k, k < w.heap.size → ¬ k = r := fun k hk e => by have := hSW.after; omega
                have hGr : ¬ w.heap.size = r := fun e => by
                  obtain ⟨_, _, _, _, _, _, _, hit, _⟩ := hR
                  exact owns_not_row hSW.out (k := r) hit (fun cur e' => by cases e') (by simp [Value.ownBlock, e])
                have hout5 := owns_keep hSW.out hO (fun k hk => by have : w.heap.size = k := by simpa [Value.ownBlock] using hk
                                                                   subst this; exact hGr)
                have hpure5 := hSW.pure.trans' hO (fun i hi e => absurd e (hOf i hi))
                have hP6 : Pure w5 (w5.alloc (.cells #[.int .i64 x.1, .int .i64 x.2] 101)) := (Only.refl _ w5).alloc _
                have hR6 := hR5.keep hP6 (fun f => f) (fun f => f)
                have hout6 := owns_pure hout5 hP6
                have hpure6 := hpure5.trans hP6
                have hcnt0 := Lib.hid hR.count
                have hHX := And.intro hSW.beyond hSW.after
                clear hO hR5 hout5 hpure5 hSW hxW hxp hP6 hOf hGr hR hsz hlx hfx
                unfold slipV at hnx hent
                obtain ⟨x1, x2⟩ := x
                dsimp only at *
                by_cases hx1 : x1 = (m : Int) + 1
                · obtain ⟨ob, c7, hdel, hR7, hle7⟩ := hR6.delete (ty := 0) slip_law Try.underlying99 (x1, x2)
                  have hO7 : Only (fun k => k = w1.heap.size) _ _ := putObj_only (w5.alloc (.cells #[.int .i64 x1, .int .i64 x2] 101)) w1.heap.size ob
                  have HNX := Lib.hid (show Sweeping w w.heap.size w1.heap.size r n h.people o2 W2 ((m : Int) + 1) (pre ++ [(x1, x2)]) _ from
                    ⟨owns_keep hout6 hO7 (fun k hk => by have : w.heap.size = k := by simpa [Value.ownBlock] using hk
                                                         subst this; exact Nat.ne_of_lt hG), hpure6.trans' hO7 (fun i hi e => by have e' : i = w1.heap.size := e; omega), hHX.1, hHX.2, hnd, _, c7, _, hR7, fun y => by rw [← sweep_drop h.people W2 ((m : Int) + 1) pre (x1, x2) hx1 y]; unfold upd; rw [HSF.out y], fun y => by rw [hmem y]; simp⟩)
                  have HC7 := Lib.hid hR7.count
                  have hpf : (pre ++ [(x1, x2)]).filter (fun x => decide (x.1 = (m : Int) + 1)) = pre.filter (fun x => decide (x.1 = (m : Int) + 1)) ++ [(x1, x2)] := by rw [List.filter_append]; simp [hx1]
                  have HPF := Lib.hid hpf
                  unfold slipV at hdel
                  have HX1 := Lib.hid hx1
                  clear hpf hR7 hR6 hout6 hpure6 hnd hmem hO7
                  subst hx1
                  go_wp2
                  go_roundw
                  case rel => exact ⟨pre ++ [((m : Int) + 1, x2)], by rw [HPF.out, List.length_append]; go_num, HNX.out⟩
                  case measure => rw [HC7.out, hcnt0.out]; omega
                · have HNX := Lib.hid (show Sweeping w w.heap.size w1.heap.size r n h.people o2 W2 ((m : Int) + 1) (pre ++ [(x1, x2)]) _ from
                    ⟨hout6, hpure6, hHX.1, hHX.2, hnd, _, c5, _, hR6, fun y => by rw [HSF.out y]; exact sweep_stay h.people W2 ((m : Int) + 1) pre (x1, x2) hx1 y, hmem⟩)
                  have HC7 := Lib.hid hR6.count
                  have hpf : (pre ++ [(x1, x2)]).filter (fun x => decide (x.1 = (m : Int) + 1)) = pre.filter (fun x => decide (x.1 = (m : Int) + 1)) := by rw [List.filter_append]; simp [hx1]
                  have HPF := Lib.hid hpf
                  have hx1' : (x1 == (m : Int) + 1) = false := by simpa using hx1
                  clear hpf hR6 hout6 hpure6 hnd hmem
                  go_wp2
                  go_roundw
                  case rel => exact ⟨pre ++ [(x1, x2)], by rw [HPF.out], HNX.out⟩
                  case measure => rw [HC7.out, hcnt0.out]; omega
    · obtain rfl : m = M := by omega
      have HS := Lib.hid hS; clear hS
      go_wp2
      go_ret2
      exact ⟨_, rfl, by rw [← HN.out]; exact HS.out.out, HS.out.pure⟩
end Go.Proofs.Ytbiffhekbnmffaa
