/-
  The law's own walk.
-/
import Derived.Test.YtcephfmafmmilaaMi
namespace Go.Proofs.Ytcephfmafmmilaa
open Go.RowKit

abbrev argSh : Sh := .agg [(.list (.num .i64)), (.num .i64), (.list (.list (.num .i64))), .bool, (.list (.num .i64)), (.list (.num .i64))]

set_option maxHeartbeats 4000000 in
set_option maxRecDepth 100000 in
theorem TopAnewLag_any (D : Nat → Prop) (w : World) (curve : List Int) (turns : Int) (chain : List (List Int)) (comes : Bool) (came added : List Int) (cv chv cmv adv : Value) (ns : List Int) (ss : List ByteArray) (hD : ∀ k, D k → k < w.heap.size)
    (h_curve : Ints D w cv curve) (h_chain : Lists D w chv chain) (h_came : Ints D w cmv came) (h_added : Ints D w adv added) (hE : Enc D w argSh [cv, .int .i64 turns, chv, .bool comes, cmv, adv] ns ss) (hR : Room ns ss) :
    Calls Try.prog 3 #[.agg #[cv, .int .i64 turns, chv, .bool comes, cmv, adv]] w fun e w' => e = .returned (.bool true) ∧ Below w.heap.size w w' := by
  obtain ⟨cv1, cv2, cv3, rfl⟩ : ∃ a n c, cv = .slice a n c := by obtain ⟨a, n, c, hh, _⟩ := h_curve; exact ⟨a, n, c, hh⟩
  obtain ⟨chv1, chv2, chv3, rfl⟩ : ∃ a n c, chv = .slice a n c := by obtain ⟨a, n, c, hh, _⟩ := h_chain; exact ⟨a, n, c, hh⟩
  obtain ⟨cmv1, cmv2, cmv3, rfl⟩ : ∃ a n c, cmv = .slice a n c := by obtain ⟨a, n, c, hh, _⟩ := h_came; exact ⟨a, n, c, hh⟩
  obtain ⟨adv1, adv2, adv3, rfl⟩ : ∃ a n c, adv = .slice a n c := by obtain ⟨a, n, c, hh, _⟩ := h_added; exact ⟨a, n, c, hh⟩
  have hb0 := World.alloc_heap_new w (.cells #[.slice cv1 cv2 cv3, .int .i64 turns, .slice chv1 chv2 chv3, .bool comes, .slice cmv1 cmv2 cmv3, .slice adv1 adv2 adv3] 25)
  have hb1 := World.alloc_heap_new (w.alloc (.cells #[.slice cv1 cv2 cv3, .int .i64 turns, .slice chv1 chv2 chv3, .bool comes, .slice cmv1 cmv2 cmv3, .slice adv1 adv2 adv3] 25)) (.cells #[.slice none 0 0, .slice none 0 0] 29)
  have hb2 := World.alloc_heap_new ((w.alloc (.cells #[.slice cv1 cv2 cv3, .int .i64 turns, .slice chv1 chv2 chv3, .bool comes, .slice cmv1 cmv2 cmv3, .slice adv1 adv2 adv3] 25)).alloc (.cells #[.slice none 0 0, .slice none 0 0] 29)) (.cells #[.slice none 0 0, .slice none 0 0] 29)
  simp only [World.size_alloc] at hb1 hb2
  have up : ∀ {W : World} {k : Nat} {o o' : Obj}, W.heap[k]? = some o → (W.alloc o').heap[k]? = some o := fun h => (Below.heap_alloc _ _ _ (lt_of_block h)).trans h
  have hP : Pure w (((w.alloc (.cells #[.slice cv1 cv2 cv3, .int .i64 turns, .slice chv1 chv2 chv3, .bool comes, .slice cmv1 cmv2 cmv3, .slice adv1 adv2 adv3] 25)).alloc (.cells #[.slice none 0 0, .slice none 0 0] 29)).alloc (.cells #[.slice none 0 0, .slice none 0 0] 29)) := (((Only.refl _ w).alloc _).alloc _).alloc _
  have HA0 := Lib.hid (show ArgsAt D _ w.heap.size curve turns chain comes came added (.slice cv1 cv2 cv3) (.slice chv1 chv2 chv3) (.slice cmv1 cmv2 cmv3) (.slice adv1 adv2 adv3) from ⟨up (up hb0), h_curve.pure hP, h_chain.pure hP, h_came.pure hP, h_added.pure hP⟩)
  have HE0 := Lib.hid (hE.keep hP (fun _ _ _ f => f))
  have HB1 := Lib.hid (up (o' := .cells #[.slice none 0 0, .slice none 0 0] 29) hb1)
  have HB2 := Lib.hid hb2
  have HP := Lib.hid hP
  have hsz : (((w.alloc (.cells #[.slice cv1 cv2 cv3, .int .i64 turns, .slice chv1 chv2 chv3, .bool comes, .slice cmv1 cmv2 cmv3, .slice adv1 adv2 adv3] 25)).alloc (.cells #[.slice none 0 0, .slice none 0 0] 29)).alloc (.cells #[.slice none 0 0, .slice none 0 0] 29)).heap.size = w.heap.size + 3 := by simp
  have HSZ := Lib.hid hsz; have HD := Lib.hid hD
  clear hb0 hb1 hb2 up hP h_curve h_chain h_came h_added hE hsz hD
  go_enter Try.func3, Try.ntmps3
  go_upto_region 2 with fail
  generalize (((w.alloc (.cells #[.slice cv1 cv2 cv3, .int .i64 turns, .slice chv1 chv2 chv3, .bool comes, .slice cmv1 cmv2 cmv3, .slice adv1 adv2 adv3] 25)).alloc (.cells #[.slice none 0 0, .slice none 0 0] 29)).alloc (.cells #[.slice none 0 0, .slice none 0 0] 29)) = w1 at HA0 HE0 HB1 HB2 HP HSZ ⊢
  obtain ⟨hnw, hiw⟩ := nil_heap HB1.out
  obtain ⟨x0, x1, x2, x3, x4, x5⟩ := HA0.out.cells
  have hDw : ∀ k, D k → ¬ InHeap (w.heap.size + 1) w1 k := fun k hk hi => by have := HD.out k hk; have := hiw k hi; omega
  have hAll := all_any (w.heap.size + 1) _ _ _ _ _ _ D [] [] ns ss w1 hnw hDw HE0.out hR
  simp only [List.nil_append] at hAll
  have HIW := Lib.hid hiw; have HDW := Lib.hid hDw
  clear hnw hiw hDw
  go_wp2_with fail
  refine hAll.mono ?_
  rintro e W ⟨rfl, hHW, hSW⟩
  have hbx : ¬ InHeap (w.heap.size + 1) w1 w.heap.size := fun hi => by have := HIW.out _ hi; omega
  have hA1 := HA0.out.keep hSW.only HDW.out hbx
  have hE1 := HE0.out.keep hSW.only (fun k _ => HDW.out k)
  have hB2 := hSW.only.heap HB2.out (fun hi => by have := HIW.out _ hi; omega)
  have hlt := lt_of_block hA1.box
  have hszW : w.heap.size + 3 ≤ W.heap.size := by have := hSW.only.size; have := HSZ.out; omega
  have hBelow : Below w.heap.size w W := (HP.out.toBelow (Nat.le_refl _) (fun _ _ f => f)).trans (hSW.only.toBelow HP.out.size (fun k hk hi => by have := HIW.out k hi; omega))
  have hArgs : ArgsAt (fun k => k < W.heap.size) W w.heap.size curve turns chain comes came added (.slice cv1 cv2 cv3) (.slice chv1 chv2 chv3) (.slice cmv1 cmv2 cmv3) (.slice adv1 adv2 adv3) := by
    have hd : ∀ k, D k → k < W.heap.size := fun k hk => by have := HD.out k hk; omega
    refine ⟨hA1.box, ?_, ?_, ?_, ?_⟩
    · obtain ⟨a, n, c, hv, h1, h2, h3, h4⟩ := hA1.curve
      exact ⟨a, n, c, hv, h1, h2, h3, fun i hi => by obtain ⟨b, o, e, d, r⟩ := h4 i hi; exact ⟨b, o, e, hd b d, r⟩⟩
    · obtain ⟨a, n, c, hv, h1, h2, h3, h4⟩ := hA1.chain
      exact ⟨a, n, c, hv, h1, h2, h3, fun i hi => by obtain ⟨b, o, u, e, d, r, q⟩ := h4 i hi; exact ⟨b, o, u, e, hd b d, r, q.any hd⟩⟩
    · obtain ⟨a, n, c, hv, h1, h2, h3, h4⟩ := hA1.came
      exact ⟨a, n, c, hv, h1, h2, h3, fun i hi => by obtain ⟨b, o, e, d, r⟩ := h4 i hi; exact ⟨b, o, e, hd b d, r⟩⟩
    · obtain ⟨a, n, c, hv, h1, h2, h3, h4⟩ := hA1.added
      exact ⟨a, n, c, hv, h1, h2, h3, fun i hi => by obtain ⟨b, o, e, d, r⟩ := h4 i hi; exact ⟨b, o, e, hd b d, r⟩⟩
  have HARGS := Lib.hid hArgs; have HBW := Lib.hid hBelow; have HSZW := Lib.hid hszW; have HB2W := Lib.hid hB2; have HE1 := Lib.hid hE1; have HA1 := Lib.hid hA1; have HHW := Lib.hid hHW; have HSW := Lib.hid hSW
  have HLT := Lib.hid hlt
  clear hArgs hBelow hszW hB2 hE1 hA1 hHW hSW hlt hbx hAll x0 x1 x2 x3 x4 x5
  have HQ0 := Lib.hid (Below.refl W.heap.size W)
  go_wp2_with fail
  refine (again_any 6 w.heap.size W W _ [] (enters_of Try.func6 (by kernel_rfl) rfl) (ask_CheckCurve HARGS.out HLT.out) HQ0.out).mono ?_
  rintro e y1 ⟨rfl, hQ⟩
  have HQ1 := Lib.hid hQ; clear hQ
  go_wp2_with fail
  refine (again_any 10 w.heap.size W y1 _ [] (enters_of Try.func10 (by kernel_rfl) rfl) (ask_Most HARGS.out HLT.out) HQ1.out).mono ?_
  rintro e y2 ⟨rfl, hQ⟩
  have HQ2 := Lib.hid hQ; clear hQ
  go_wp2_with fail
  refine (again_any 13 w.heap.size W y2 _ [] (enters_of Try.func13 (by kernel_rfl) rfl) (ask_Least HARGS.out HLT.out) HQ2.out).mono ?_
  rintro e y3 ⟨rfl, hQ⟩
  have HQ3 := Lib.hid hQ; clear hQ
  go_wp2_with fail
  refine (again_any 15 w.heap.size W y3 _ [] (enters_of Try.func15 (by kernel_rfl) rfl) (ask_Rate HARGS.out HLT.out) HQ3.out).mono ?_
  rintro e y4 ⟨rfl, hQ⟩
  have HQ4 := Lib.hid hQ; clear hQ
  go_wp2_with fail
  refine (again_any 18 w.heap.size W y4 _ [] (enters_of Try.func18 (by kernel_rfl) rfl) (ask_Break HARGS.out HLT.out) HQ4.out).mono ?_
  rintro e y5 ⟨rfl, hQ⟩
  have HQ5 := Lib.hid hQ; clear hQ
  go_wp2_with fail
  refine (again_any 21 w.heap.size W y5 _ [] (enters_of Try.func21 (by kernel_rfl) rfl) (ask_Came HARGS.out HLT.out) HQ5.out).mono ?_
  rintro e y6 ⟨rfl, hQ⟩
  have HQ6 := Lib.hid hQ; clear hQ
  go_wp2_with fail
  refine (again_any 26 w.heap.size W y6 _ [] (enters_of Try.func26 (by kernel_rfl) rfl) (ask_CheckAdded HARGS.out HLT.out) HQ6.out).mono ?_
  rintro e y7 ⟨rfl, hQ⟩
  have HQ7 := Lib.hid hQ; clear hQ
  go_wp2_with fail
  refine (again_any 28 w.heap.size W y7 _ [] (enters_of Try.func28 (by kernel_rfl) rfl) (ask_Added HARGS.out HLT.out) HQ7.out).mono ?_
  rintro e y8 ⟨rfl, hQ⟩
  have HQ8 := Lib.hid hQ; clear hQ
  go_wp2_with fail
  refine (again_any 31 w.heap.size W y8 _ [] (enters_of Try.func31 (by kernel_rfl) rfl) (ask_Seen HARGS.out HLT.out) HQ8.out).mono ?_
  rintro e y9 ⟨rfl, hQ⟩
  have HQ9 := Lib.hid hQ; clear hQ
  go_wp2_with fail
  refine (again_any 33 w.heap.size W y9 _ [] (enters_of Try.func33 (by kernel_rfl) rfl) (ask_Wait HARGS.out HLT.out) HQ9.out).mono ?_
  rintro e y10 ⟨rfl, hQ⟩
  have HQ10 := Lib.hid hQ; clear hQ
  go_wp2_with fail
  refine (again_any 35 w.heap.size W y10 _ [] (enters_of Try.func35 (by kernel_rfl) rfl) (ask_Late HARGS.out HLT.out) HQ10.out).mono ?_
  rintro e y11 ⟨rfl, hQ⟩
  have HQ11 := Lib.hid hQ; clear hQ
  go_wp2_with fail
  refine (again_any 37 w.heap.size W y11 _ [] (enters_of Try.func37 (by kernel_rfl) rfl) (ask_Behind HARGS.out HLT.out) HQ11.out).mono ?_
  rintro e y12 ⟨rfl, hQ⟩
  have HQ12 := Lib.hid hQ; clear hQ
  go_upto_region 4 with fail
  have hB := HQ12.out
  have his := (hB.block _ (lt_of_block HB2W.out)).trans HB2W.out
  obtain ⟨hni, hii⟩ := nil_heap his
  have hEi := HE1.out.keep (Only.below hB) (fun k _ hk hn => by have := HD.out k hk; have := HSZW.out; omega)
  have hbxI := (hB.block _ (lt_of_block HARGS.out.box)).trans HARGS.out.box
  have hDi : ∀ k, D k → ¬ InHeap (w.heap.size + 2) y12 k := fun k hk hi => by have := HD.out k hk; have := hii k hi; omega
  have hAll := all_any (w.heap.size + 2) _ _ _ _ _ _ D [] [] ns ss y12 hni hDi hEi hR
  simp only [List.nil_append] at hAll
  have HII := Lib.hid hii
  have hWas := HHW.out.keep (Only.below hB) (fun k hk hn => by have := InHeap.lt HHW.out hk; omega)
  have HWAS := Lib.hid hWas
  have hWr : ∀ k, InHeap (w.heap.size + 1) y12 k → k = w.heap.size + 1 ∨ w.heap.size + 3 ≤ k := fun k hk => by
    obtain ⟨vn, vs, hh, _, _⟩ := HHW.out
    have h1 := in_stay (Only.below hB) hh (by have := lt_of_block hh; omega) hk
    rcases HSW.out.rows k h1 with h | h
    · exact .inl (HIW.out k h)
    · right; have := HSZ.out; omega
  have HWR := Lib.hid hWr
  have x0 : y12.cell? ⟨w.heap.size, 0, none⟩ = some (.slice cv1 cv2 cv3) := cell_of_row _ _ _ _ _ _ hbxI
  have x1 : y12.cell? ⟨w.heap.size, 1, none⟩ = some (.int .i64 turns) := cell_of_row _ _ _ _ _ _ hbxI
  have x2 : y12.cell? ⟨w.heap.size, 2, none⟩ = some (.slice chv1 chv2 chv3) := cell_of_row _ _ _ _ _ _ hbxI
  have x3 : y12.cell? ⟨w.heap.size, 3, none⟩ = some (.bool comes) := cell_of_row _ _ _ _ _ _ hbxI
  have x4 : y12.cell? ⟨w.heap.size, 4, none⟩ = some (.slice cmv1 cmv2 cmv3) := cell_of_row _ _ _ _ _ _ hbxI
  have x5 : y12.cell? ⟨w.heap.size, 5, none⟩ = some (.slice adv1 adv2 adv3) := cell_of_row _ _ _ _ _ _ hbxI
  clear hB his hni hii hEi hbxI hDi hWas hWr
  go_wp2_with fail
  refine hAll.mono ?_
  rintro e z ⟨rfl, hHI, hSI⟩
  clear hAll x0 x1 x2 x3 x4 x5
  have hWas := HWAS.out.keep hSI.only (fun k hk hi => by have := HII.out k hi; have := HWR.out k hk; omega)
  have hBz : Below w.heap.size w z := (HBW.out.trans (HQ12.out.mono (by have := HSZW.out; omega))).trans (hSI.only.toBelow (by have := HQ12.out.size; have := HSZW.out; omega) (fun k hk hi => by have := HII.out k hi; omega))
  obtain ⟨vn, vs, hh, hN, hS⟩ := hWas
  obtain ⟨un, us, hu, hN', hS'⟩ := hHI
  obtain ⟨c0, c1, _, _⟩ := heap_cells hh
  obtain ⟨d0, d1, _, _⟩ := heap_cells hu
  have hSame := same_any (fun _ => True) vn vs un us ns ss z ((ownsRow_slice hN).dom (fun _ _ _ => trivial) (by decide)) ((ownsRow_slice hS).dom (fun _ _ _ => trivial) (by decide)) ((ownsRow_slice hN').dom (fun _ _ _ => trivial) (by decide)) ((ownsRow_slice hS').dom (fun _ _ _ => trivial) (by decide))
  have HBZ := Lib.hid hBz
  clear hSI hh hu hN hS hN' hS' hBz
  go_wp2_with fail
  refine hSame.mono ?_
  rintro e z2 ⟨rfl, hP2⟩
  have HB2 := Lib.hid (HBZ.out.trans (hP2.toBelow HBZ.out.size (fun _ _ f => f)))
  clear hP2 hSame
  go_wp2_with fail
  refine (Works_any _).mono ?_
  rintro e z3 ⟨rfl, hP3⟩
  have HB3 := Lib.hid (HB2.out.trans (hP3.toBelow HB2.out.size (fun _ _ f => f)))
  clear hP3
  go_wp2
  go_ret
  exact ⟨rfl, HB3.out⟩
end Go.Proofs.Ytcephfmafmmilaa
