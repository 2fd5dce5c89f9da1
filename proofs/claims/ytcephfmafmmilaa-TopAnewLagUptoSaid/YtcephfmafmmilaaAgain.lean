/-
  'again': two calls put the same.
-/
import Derived.Test.YtcephfmafmmilaaSame
namespace Go.Proofs.Ytcephfmafmmilaa
open Go.RowKit

/-- A function is entered as it is called. -/
def Enters (f : Nat) : Prop := ∀ args w, (callFunc f args).run Try.prog w = .ok (.enter f args) w

/-- What a call that is asked again promises: in whatever world in which all that lay in W lies as it lay, the same numbers and texts; what it hands back to write over its results writes over memory of its own making. -/
def Asks (K bx : Nat) (W : World) (N : List Int) (S : List ByteArray) : Prop :=
  ∀ (w : World) (hb : Nat), Below W.heap.size W w → W.heap.size ≤ hb → HeapIs hb w [] [] → (∀ k, InHeap hb w k → W.heap.size ≤ k) →
    Calls Try.prog K #[.pointer (some ⟨hb, 0, none⟩), .pointer (some ⟨bx, 0, none⟩)] w fun e w' => ∃ (g : Nat) (lb : Array Value) (F : Nat → Prop), e = .returned (.func (.func g) #[] lb) ∧ Enters g ∧ HeapIs hb w' N S ∧ Step hb w w' ∧
      (∀ k, F k → w.heap.size ≤ k ∧ ¬ InHeap hb w' k) ∧ Calls Try.prog g lb w' fun e2 w2 => e2 = .returned (.tuple #[]) ∧ Only F w' w2

theorem nil_heap {w : World} {b : Nat} (h : w.heap[b]? = some (.cells #[.slice none 0 0, .slice none 0 0] 29 (0, 0))) : HeapIs b w [] [] ∧ ∀ k, InHeap b w k → k = b := by
  refine ⟨⟨_, _, h, World.ownsRow_nil _ _ _ _, World.ownsRow_nil _ _ _ _⟩, fun k hk => ?_⟩
  rcases hk with rfl | ⟨vn, vs, hh, hk⟩
  · rfl
  · rw [h] at hh
    simp only [Option.some.injEq, Obj.cells.injEq, Array.mk.injEq, List.cons.injEq, and_true] at hh
    obtain ⟨rfl, rfl⟩ := hh
    rcases hk with hk | hk <;> simp [Value.ownBlock] at hk

theorem in_stay {hb : Nat} {w w' : World} {S : Nat → Prop} (h : Only S w w') {o : Obj} (hh : w.heap[hb]? = some o) (hs : ¬ S hb) {k : Nat} (hk : InHeap hb w' k) : InHeap hb w k := by
  rcases hk with rfl | ⟨vn, vs, hx, hk⟩
  · exact .inl rfl
  · have := h.heap hh hs
    rw [this] at hx
    exact .inr ⟨vn, vs, by rw [hh]; exact hx, hk⟩

set_option maxHeartbeats 1000000 in
set_option maxRecDepth 100000 in
theorem again_any (K bx : Nat) (W w0 : World) (N : List Int) (S : List ByteArray) (hE : Enters K) (hA : Asks K bx W N S) (hb : Below W.heap.size W w0) :
    Calls Try.prog 5 #[.func (.func K) #[] #[.pointer (some ⟨bx, 0, none⟩)]] w0 fun e w' => e = .returned (.bool true) ∧ Below W.heap.size W w' := by
  have hs := hb.size
  have ha : ((w0.alloc (.cells #[.slice none 0 0, .slice none 0 0] 29)).alloc (.cells #[.slice none 0 0, .slice none 0 0] 29)).heap[w0.heap.size]? = some (.cells #[.slice none 0 0, .slice none 0 0] 29 (0, 0)) :=
    (Below.heap_alloc _ _ _ (by simp)).trans (World.alloc_heap_new w0 _)
  have hb' : ((w0.alloc (.cells #[.slice none 0 0, .slice none 0 0] 29)).alloc (.cells #[.slice none 0 0, .slice none 0 0] 29)).heap[w0.heap.size + 1]? = some (.cells #[.slice none 0 0, .slice none 0 0] 29 (0, 0)) := by
    have := World.alloc_heap_new (w0.alloc (.cells #[.slice none 0 0, .slice none 0 0] 29)) (.cells #[.slice none 0 0, .slice none 0 0] 29)
    rwa [World.size_alloc] at this
  have hB1 : Below W.heap.size W ((w0.alloc (.cells #[.slice none 0 0, .slice none 0 0] 29)).alloc (.cells #[.slice none 0 0, .slice none 0 0] 29)) := (hb.alloc hs _).alloc (by simp; omega) _
  have hz : ((w0.alloc (.cells #[.slice none 0 0, .slice none 0 0] 29)).alloc (.cells #[.slice none 0 0, .slice none 0 0] 29)).heap.size = w0.heap.size + 2 := by simp
  have hE' := hE
  unfold Enters at hE'
  have HA := Lib.hid hA; have Ha := Lib.hid ha; have Hb := Lib.hid hb'; have HB1 := Lib.hid hB1; have HZ := Lib.hid hz; have HS := Lib.hid hs
  clear hA ha hb' hB1 hz hb hs hE
  go_enter Try.func5, Try.ntmps5
  go_wp2_with fail
  generalize ((w0.alloc (.cells #[.slice none 0 0, .slice none 0 0] 29)).alloc (.cells #[.slice none 0 0, .slice none 0 0] 29)) = w1 at Ha Hb HB1 HZ ⊢
  obtain ⟨hna, hia⟩ := nil_heap Ha.out
  refine (HA.out w1 w0.heap.size HB1.out HS.out hna (fun k hk => by rw [hia k hk]; exact HS.out)).mono ?_
  rintro e w2 ⟨g, lb, F, rfl, hEg, hH2, hSt, hF, hG⟩
  unfold Enters at hEg
  have HH2 := Lib.hid hH2; have HSt := Lib.hid hSt; have HF := Lib.hid hF
  have HB2 := Lib.hid (show Below W.heap.size W w2 from HB1.out.trans (hSt.only.toBelow (Nat.le_trans HS.out (by rw [HZ.out]; omega)) (fun k hk hi => by have := hia k hi; have := HS.out; omega)))
  have HIA := Lib.hid hia
  clear hna hH2 hSt hF hia
  go_wp2_with fail
  refine hG.mono ?_
  rintro e w3 ⟨rfl, hO3⟩
  have h1 := HZ.out
  have hH3 := HH2.out.keep hO3 (fun k hk hf => (HF.out k hf).2 hk)
  have hB3 : Below W.heap.size W w3 := HB2.out.trans (hO3.toBelow HB2.out.size (fun k hk hf => by have := (HF.out k hf).1; have := HS.out; omega))
  have hb2 := HSt.out.only.heap Hb.out (fun hi => by have := HIA.out _ hi; omega)
  have hb3 := hO3.heap hb2 (fun hf => by have := (HF.out _ hf).1; omega)
  obtain ⟨hnb, hib⟩ := nil_heap hb3
  have hAI : ∀ k, InHeap w0.heap.size w3 k → k = w0.heap.size ∨ w0.heap.size + 2 ≤ k := fun k hk => by
    obtain ⟨vn, vs, hh, _, _⟩ := HH2.out
    have h3 := in_stay hO3 hh (fun hf => (HF.out _ hf).2 (.inl rfl)) hk
    rcases HSt.out.rows k h3 with h | h
    · exact .inl (HIA.out k h)
    · right; omega
  have HH3 := Lib.hid hH3; have HB3 := Lib.hid hB3; have HAI := Lib.hid hAI; have HIB := Lib.hid hib; have HNB := Lib.hid hnb
  clear hO3 hH3 hB3 hb2 hb3 hnb hib hAI h1 hEg hG
  go_wp2_with fail
  refine (HA.out w3 (w0.heap.size + 1) HB3.out (Nat.le_succ_of_le HS.out) HNB.out (fun k hk => by rw [HIB.out k hk]; exact Nat.le_succ_of_le HS.out)).mono ?_
  rintro e w4 ⟨g2, lb2, F2, rfl, hEg, hH4, hSt4, _, _⟩
  have hHA4 := HH3.out.keep hSt4.only (fun k hk hi => by
    have h1 := HIB.out k hi
    have h2 := HAI.out k hk
    omega)
  have HB4 := Lib.hid (show Below W.heap.size W w4 from HB3.out.trans (hSt4.only.toBelow HB3.out.size (fun k hk hi => by have := HIB.out k hi; have := HS.out; omega)))
  obtain ⟨vn, vs, hh, hN, hS⟩ := hHA4
  obtain ⟨un, us, hu, hN', hS'⟩ := hH4
  obtain ⟨c0, c1, _, _⟩ := heap_cells hh
  obtain ⟨d0, d1, _, _⟩ := heap_cells hu
  have hSame := same_any (fun _ => True) vn vs un us N S w4 ((ownsRow_slice hN).dom (fun _ _ _ => trivial) (by decide)) ((ownsRow_slice hS).dom (fun _ _ _ => trivial) (by decide)) ((ownsRow_slice hN').dom (fun _ _ _ => trivial) (by decide)) ((ownsRow_slice hS').dom (fun _ _ _ => trivial) (by decide))
  clear hEg hSt4 hh hu hN hS hN' hS'
  go_wp2_with fail
  refine hSame.mono ?_
  rintro e w5 ⟨rfl, hP⟩
  have HB5 := Lib.hid (show Below W.heap.size W w5 from HB4.out.trans (hP.toBelow HB4.out.size (fun _ _ f => f)))
  clear hP
  go_wp2
  go_ret
  exact ⟨rfl, HB5.out⟩
end Go.Proofs.Ytcephfmafmmilaa
