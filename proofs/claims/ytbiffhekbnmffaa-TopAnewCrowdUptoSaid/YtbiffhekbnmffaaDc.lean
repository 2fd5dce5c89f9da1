/-
  The law's own walk.
-/
import Derived.Test.YtbiffhekbnmffaaCx
import Derived.Test.YtbiffhekbnmffaaDb
namespace Go.Proofs.Ytbiffhekbnmffaa
open Go.RowKit

abbrev argSh : Sh := .agg [(.agg [(.num .i64), (.list (.agg [(.agg [(.num .i64), (.num .i64)]), (.num .i64)]))]), (.num .i64), (.list (.num .i64)), (.num .i64), (.num .i64), (.list (.num .i64)), (.num .i64), (.num .i64)]

set_option maxHeartbeats 4000000 in
set_option maxRecDepth 100000 in
theorem TopAnewCrowd_any (D : Nat → Prop) (w : World) (h0 : Hall) (mach : Int) (plan : List Int) (fr til : Int) (truth : List Int) (person minute : Int) (pv plv tv : Value) (ns : List Int) (ss : List ByteArray) (hD : ∀ k, D k → k < w.heap.size)
    (h_people : People D w pv h0.people) (h_plan : Ints D w plv plan) (h_truth : Ints D w tv truth) (hE : Enc D w argSh [.int .i64 h0.minutes, pv, .int .i64 mach, plv, .int .i64 fr, .int .i64 til, tv, .int .i64 person, .int .i64 minute] ns ss) (hR : Room ns ss) :
    Calls Try.prog 3 #[.agg #[.int .i64 h0.minutes, pv, .int .i64 mach, plv, .int .i64 fr, .int .i64 til, tv, .int .i64 person, .int .i64 minute]] w fun e w' => e = .returned (.bool true) ∧ Below w.heap.size w w' := by
  obtain ⟨pv1, pv2, pv3, rfl⟩ : ∃ a n c, pv = .slice a n c := by obtain ⟨a, n, c, hh, _⟩ := h_people; exact ⟨a, n, c, hh⟩
  obtain ⟨plv1, plv2, plv3, rfl⟩ : ∃ a n c, plv = .slice a n c := by obtain ⟨a, n, c, hh, _⟩ := h_plan; exact ⟨a, n, c, hh⟩
  obtain ⟨tv1, tv2, tv3, rfl⟩ : ∃ a n c, tv = .slice a n c := by obtain ⟨a, n, c, hh, _⟩ := h_truth; exact ⟨a, n, c, hh⟩
  have hb0 := World.alloc_heap_new w (.cells #[.int .i64 h0.minutes, .slice pv1 pv2 pv3, .int .i64 mach, .slice plv1 plv2 plv3, .int .i64 fr, .int .i64 til, .slice tv1 tv2 tv3, .int .i64 person, .int .i64 minute] 27)
  have hb1 := World.alloc_heap_new (w.alloc (.cells #[.int .i64 h0.minutes, .slice pv1 pv2 pv3, .int .i64 mach, .slice plv1 plv2 plv3, .int .i64 fr, .int .i64 til, .slice tv1 tv2 tv3, .int .i64 person, .int .i64 minute] 27)) (.cells #[.slice none 0 0, .slice none 0 0] 31)
  have hb2 := World.alloc_heap_new ((w.alloc (.cells #[.int .i64 h0.minutes, .slice pv1 pv2 pv3, .int .i64 mach, .slice plv1 plv2 plv3, .int .i64 fr, .int .i64 til, .slice tv1 tv2 tv3, .int .i64 person, .int .i64 minute] 27)).alloc (.cells #[.slice none 0 0, .slice none 0 0] 31)) (.cells #[.slice none 0 0, .slice none 0 0] 31)
  simp only [World.size_alloc] at hb1 hb2
  have up : ∀ {W : World} {k : Nat} {o o' : Obj}, W.heap[k]? = some o → (W.alloc o').heap[k]? = some o := fun h => (Below.heap_alloc _ _ _ (lt_of_block h)).trans h
  have hP : Pure w (((w.alloc (.cells #[.int .i64 h0.minutes, .slice pv1 pv2 pv3, .int .i64 mach, .slice plv1 plv2 plv3, .int .i64 fr, .int .i64 til, .slice tv1 tv2 tv3, .int .i64 person, .int .i64 minute] 27)).alloc (.cells #[.slice none 0 0, .slice none 0 0] 31)).alloc (.cells #[.slice none 0 0, .slice none 0 0] 31)) := (((Only.refl _ w).alloc _).alloc _).alloc _
  have HA0 := Lib.hid (show ArgsAt D _ w.heap.size h0 mach plan fr til truth person minute (.slice pv1 pv2 pv3) (.slice plv1 plv2 plv3) (.slice tv1 tv2 tv3) from ⟨up (up hb0), h_people.pure hP, h_plan.pure hP, h_truth.pure hP⟩)
  have HE0 := Lib.hid (hE.keep hP (fun _ _ _ f => f))
  have HB1 := Lib.hid (up (o' := .cells #[.slice none 0 0, .slice none 0 0] 31) hb1)
  have HB2 := Lib.hid hb2
  have HP := Lib.hid hP
  have hsz : (((w.alloc (.cells #[.int .i64 h0.minutes, .slice pv1 pv2 pv3, .int .i64 mach, .slice plv1 plv2 plv3, .int .i64 fr, .int .i64 til, .slice tv1 tv2 tv3, .int .i64 person, .int .i64 minute] 27)).alloc (.cells #[.slice none 0 0, .slice none 0 0] 31)).alloc (.cells #[.slice none 0 0, .slice none 0 0] 31)).heap.size = w.heap.size + 3 := by simp
  have HSZ := Lib.hid hsz; have HD := Lib.hid hD
  clear hb0 hb1 hb2 up hP h_people h_plan h_truth hE hsz hD
  go_enter Try.func3, Try.ntmps3
  go_upto_region 2 with fail
  generalize (((w.alloc (.cells #[.int .i64 h0.minutes, .slice pv1 pv2 pv3, .int .i64 mach, .slice plv1 plv2 plv3, .int .i64 fr, .int .i64 til, .slice tv1 tv2 tv3, .int .i64 person, .int .i64 minute] 27)).alloc (.cells #[.slice none 0 0, .slice none 0 0] 31)).alloc (.cells #[.slice none 0 0, .slice none 0 0] 31)) = w1 at HA0 HE0 HB1 HB2 HP HSZ ⊢
  obtain ⟨hnw, hiw⟩ := nil_heap HB1.out
  obtain ⟨x0, x1, x2, x3, x4, x5, x6, x7, x8⟩ := HA0.out.cells
  have hDw : ∀ k, D k → ¬ InHeap (w.heap.size + 1) w1 k := fun k hk hi => by have := HD.out k hk; have := hiw k hi; omega
  have hAll := all_any (w.heap.size + 1) _ _ _ _ _ _ _ _ _ D [] [] ns ss w1 hnw hDw HE0.out hR
  simp only [List.nil_append] at hAll
  have HIW := Lib.hid hiw; have HDW := Lib.hid hDw
  clear hnw hiw hDw
  go_wp2_with fail
  refine hAll.mono ?_
  rintro e W ⟨rfl, hHW, hSW⟩
  have hbx : ¬ InHeap (w.heap.size + 1) w1 w.heap.size := fun hi => by have := HIW.out _ hi; omega
  have hA1 := HA0.out.keep hSW.only HDW.out hbx
  have hE1 := HE0.out.keep hSW.only (fun k _ => HDW.out k)
  have hB2 := hSW.only.heap HB2.out (fun hi => by have := HIW.out _ hi; omega)
  have hlt := lt_of_block hA1.box
  have hszW : w.heap.size + 3 ≤ W.heap.size := by have := hSW.only.size; have := HSZ.out; omega
  have hBelow : Below w.heap.size w W := (HP.out.toBelow (Nat.le_refl _) (fun _ _ f => f)).trans (hSW.only.toBelow HP.out.size (fun k hk hi => by have := HIW.out k hi; omega))
  have hArgs : ArgsAt (fun k => k < W.heap.size) W w.heap.size h0 mach plan fr til truth person minute (.slice pv1 pv2 pv3) (.slice plv1 plv2 plv3) (.slice tv1 tv2 tv3) := by
    have hd : ∀ k, D k → k < W.heap.size := fun k hk => by have := HD.out k hk; omega
    refine ⟨hA1.box, ?_, ?_, ?_⟩
    · obtain ⟨a, n, c, hv, h1, h2, h3, h4⟩ := hA1.people
      exact ⟨a, n, c, hv, h1, h2, h3, fun i hi => by obtain ⟨b, o, e, d, r⟩ := h4 i hi; exact ⟨b, o, e, hd b d, r⟩⟩
    · obtain ⟨a, n, c, hv, h1, h2, h3, h4⟩ := hA1.plan
      exact ⟨a, n, c, hv, h1, h2, h3, fun i hi => by obtain ⟨b, o, e, d, r⟩ := h4 i hi; exact ⟨b, o, e, hd b d, r⟩⟩
    · obtain ⟨a, n, c, hv, h1, h2, h3, h4⟩ := hA1.truth
      exact ⟨a, n, c, hv, h1, h2, h3, fun i hi => by obtain ⟨b, o, e, d, r⟩ := h4 i hi; exact ⟨b, o, e, hd b d, r⟩⟩
  have HARGS := Lib.hid hArgs; have HBW := Lib.hid hBelow; have HSZW := Lib.hid hszW; have HB2W := Lib.hid hB2; have HE1 := Lib.hid hE1; have HA1 := Lib.hid hA1; have HHW := Lib.hid hHW; have HSW := Lib.hid hSW
  have HLT := Lib.hid hlt
  clear hArgs hBelow hszW hB2 hE1 hA1 hHW hSW hlt hbx hAll x0 x1 x2 x3 x4 x5 x6 x7 x8
  have HQ0 := Lib.hid (Below.refl W.heap.size W)
  go_wp2_with fail
  refine (again_any 6 w.heap.size W W _ [] (enters_of Try.func6 (by kernel_rfl) rfl) (ask_CheckHall HARGS.out HLT.out) HQ0.out).mono ?_
  rintro e y1 ⟨rfl, hQ⟩
  have HQ1 := Lib.hid hQ; clear hQ
  go_wp2_with fail
  refine (again_any 10 w.heap.size W y1 _ [] (enters_of Try.func10 (by kernel_rfl) rfl) (ask_CheckPlan HARGS.out HLT.out) HQ1.out).mono ?_
  rintro e y2 ⟨rfl, hQ⟩
  have HQ2 := Lib.hid hQ; clear hQ
  go_wp2_with fail
  refine (again_any 12 w.heap.size W y2 _ [] (enters_of Try.func12 (by kernel_rfl) rfl) (ask_Plan HARGS.out HLT.out) HQ2.out).mono ?_
  rintro e y3 ⟨rfl, hQ⟩
  have HQ3 := Lib.hid hQ; clear hQ
  go_wp2_with fail
  refine (again_any 17 w.heap.size W y3 _ [] (enters_of Try.func17 (by kernel_rfl) rfl) (ask_Machines HARGS.out HLT.out) HQ3.out).mono ?_
  rintro e y4 ⟨rfl, hQ⟩
  have HQ4 := Lib.hid hQ; clear hQ
  go_wp2_with fail
  refine (again_any 20 w.heap.size W y4 _ [] (enters_of Try.func20 (by kernel_rfl) rfl) (ask_Bound HARGS.out HLT.out) HQ4.out).mono ?_
  rintro e y5 ⟨rfl, hQ⟩
  have HQ5 := Lib.hid hQ; clear hQ
  go_wp2_with fail
  refine (again_any 23 w.heap.size W y5 _ [] (enters_of Try.func23 (by kernel_rfl) rfl) (ask_Crowd HARGS.out HLT.out) HQ5.out).mono ?_
  rintro e y6 ⟨rfl, hQ⟩
  have HQ6 := Lib.hid hQ; clear hQ
  go_wp2_with fail
  refine (again_any 25 w.heap.size W y6 _ [] (enters_of Try.func25 (by kernel_rfl) rfl) (ask_Serve HARGS.out HLT.out) HQ6.out).mono ?_
  rintro e y7 ⟨rfl, hQ⟩
  have HQ7 := Lib.hid hQ; clear hQ
  go_wp2_with fail
  refine (again_any 28 w.heap.size W y7 _ [] (enters_of Try.func28 (by kernel_rfl) rfl) (ask_Late HARGS.out HLT.out) HQ7.out).mono ?_
  rintro e y8 ⟨rfl, hQ⟩
  have HQ8 := Lib.hid hQ; clear hQ
  go_wp2_with fail
  refine (again_any 31 w.heap.size W y8 _ [] (enters_of Try.func31 (by kernel_rfl) rfl) (ask_Room HARGS.out HLT.out) HQ8.out).mono ?_
  rintro e y9 ⟨rfl, hQ⟩
  have HQ9 := Lib.hid hQ; clear hQ
  go_upto_region 4 with fail
  have hB := HQ9.out
  have his := (hB.block _ (lt_of_block HB2W.out)).trans HB2W.out
  obtain ⟨hni, hii⟩ := nil_heap his
  have hEi := HE1.out.keep (Only.below hB) (fun k _ hk hn => by have := HD.out k hk; have := HSZW.out; omega)
  have hbxI := (hB.block _ (lt_of_block HARGS.out.box)).trans HARGS.out.box
  have hDi : ∀ k, D k → ¬ InHeap (w.heap.size + 2) y9 k := fun k hk hi => by have := HD.out k hk; have := hii k hi; omega
  have hAll := all_any (w.heap.size + 2) _ _ _ _ _ _ _ _ _ D [] [] ns ss y9 hni hDi hEi hR
  simp only [List.nil_append] at hAll
  have HII := Lib.hid hii
  have hWas := HHW.out.keep (Only.below hB) (fun k hk hn => by have := InHeap.lt HHW.out hk; omega)
  have HWAS := Lib.hid hWas
  have hWr : ∀ k, InHeap (w.heap.size + 1) y9 k → k = w.heap.size + 1 ∨ w.heap.size + 3 ≤ k := fun k hk => by
    obtain ⟨vn, vs, hh, _, _⟩ := HHW.out
    have h1 := in_stay (Only.below hB) hh (by have := lt_of_block hh; omega) hk
    rcases HSW.out.rows k h1 with h | h
    · exact .inl (HIW.out k h)
    · right; have := HSZ.out; omega
  have HWR := Lib.hid hWr
  have x0 : y9.cell? ⟨w.heap.size, 0, none⟩ = some (.int .i64 h0.minutes) := cell_of_row _ _ _ _ _ _ hbxI
  have x1 : y9.cell? ⟨w.heap.size, 1, none⟩ = some (.slice pv1 pv2 pv3) := cell_of_row _ _ _ _ _ _ hbxI
  have x2 : y9.cell? ⟨w.heap.size, 2, none⟩ = some (.int .i64 mach) := cell_of_row _ _ _ _ _ _ hbxI
  have x3 : y9.cell? ⟨w.heap.size, 3, none⟩ = some (.slice plv1 plv2 plv3) := cell_of_row _ _ _ _ _ _ hbxI
  have x4 : y9.cell? ⟨w.heap.size, 4, none⟩ = some (.int .i64 fr) := cell_of_row _ _ _ _ _ _ hbxI
  have x5 : y9.cell? ⟨w.heap.size, 5, none⟩ = some (.int .i64 til) := cell_of_row _ _ _ _ _ _ hbxI
  have x6 : y9.cell? ⟨w.heap.size, 6, none⟩ = some (.slice tv1 tv2 tv3) := cell_of_row _ _ _ _ _ _ hbxI
  have x7 : y9.cell? ⟨w.heap.size, 7, none⟩ = some (.int .i64 person) := cell_of_row _ _ _ _ _ _ hbxI
  have x8 : y9.cell? ⟨w.heap.size, 8, none⟩ = some (.int .i64 minute) := cell_of_row _ _ _ _ _ _ hbxI
  clear hB his hni hii hEi hbxI hDi hWas hWr
  go_wp2_with fail
  refine hAll.mono ?_
  rintro e z ⟨rfl, hHI, hSI⟩
  clear hAll x0 x1 x2 x3 x4 x5 x6 x7 x8
  have hWas := HWAS.out.keep hSI.only (fun k hk hi => by have := HII.out k hi; have := HWR.out k hk; omega)
  have hBz : Below w.heap.size w z := (HBW.out.trans (HQ9.out.mono (by have := HSZW.out; omega))).trans (hSI.only.toBelow (by have := HQ9.out.size; have := HSZW.out; omega) (fun k hk hi => by have := HII.out k hi; omega))
  obtain ⟨vn, vs, hh, hN, hS⟩ := hWas
  obtain ⟨un, us, hu, hN', hS'⟩ := hHI
  obtain ⟨c0, c1, _, _⟩ := heap_cells hh
  obtain ⟨d0, d1, _, _⟩ := heap_cells hu
  have hSame := same_any (fun _ => True) vn vs un us ns ss z ((ownsRow_slice hN).dom (fun _ _ _ => trivial) (by decide)) ((ownsRow_slice hS).dom (fun _ _ _ => trivial) (by decide)) ((ownsRow_slice hN').dom (fun _ _ _ => trivial) (by decide)) ((ownsRow_slice hS').dom (fun _ _ _ => trivial) (by decide))
  have HBZ := Lib.hid hBz
  clear hSI hh hu hN hS hN' hS' hBz
  go_wp2_with fail
  refine hSame.mono ?_
  rintro e z2 ⟨rfl, hP2⟩
  have HB2 := Lib.hid (HBZ.out.trans (hP2.toBelow HBZ.out.size (fun _ _ f => f)))
  clear hP2 hSame
  go_wp2_with fail
  refine (Works_any _).mono ?_
  rintro e z3 ⟨rfl, hP3⟩
  have HB3 := Lib.hid (HB2.out.trans (hP3.toBelow HB2.out.size (fun _ _ f => f)))
  clear hP3
  go_wp2
  go_ret
  exact ⟨rfl, HB3.out⟩
end Go.Proofs.Ytbiffhekbnmffaa
