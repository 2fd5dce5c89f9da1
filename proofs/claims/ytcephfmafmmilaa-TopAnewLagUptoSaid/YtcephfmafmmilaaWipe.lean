/-
  Writing over a list of numbers.
-/
import Derived.Test.YtcephfmafmmilaaOwn
import Derived.Test.YtcephfmafmmilaaAgain
import Derived.Deep.AppendLies
import Derived.Test.YtcephfmafmmilaaAgain
namespace Go.Proofs.Ytcephfmafmmilaa
open Go.RowKit

theorem wipeInt64_any (g i : Nat) (u : Value) (w : World) (hc : w.cell? ⟨g, i, none⟩ = some u) (hf : w.frozen? ⟨g, i, none⟩ = false) :
    Calls Try.prog 56 #[.pointer (some ⟨g, i, none⟩)] w fun e w' => e = .returned (.tuple #[]) ∧ w' = w.setCell ⟨g, i, none⟩ (.int .i64 (-77)) := by
  go_enter Try.func56, Try.ntmps56
  go_wp2
  go_end0
  exact ⟨rfl, rfl⟩

set_option maxHeartbeats 1000000 in
set_option maxRecDepth 100000 in
theorem wipes_any (B : Nat) (v : Value) (l : List Int) (w : World) (h : w.ownsRow B 2 1 v l.length (l.map (.int .i64))) :
    Calls Try.prog 55 #[v, .func (.func 56) #[] #[]] w fun e w' => e = .returned (.tuple #[]) ∧ Only (fun k => v.ownBlock = some k) w w' := by
  by_cases h0 : l.length = 0
  · have hv : ∃ a c, v = .slice a 0 c := by
      rcases h.2 with ⟨rfl, _⟩ | ⟨g, cap, cur, rfl, _⟩
      · exact ⟨_, _, rfl⟩
      · exact ⟨_, _, by rw [h0]⟩
    obtain ⟨a, c, rfl⟩ := hv
    clear h
    go_enter Try.func55, Try.ntmps55
    go_wp2_with fail
    go_loopw [4] (fun i wr => i = .int .i64 0 ∧ wr = w) (fun _ _ => 0)
    case atStart => exact ⟨rfl, rfl⟩
    case round =>
      obtain ⟨rfl, rfl⟩ := hrel
      go_wp2
      go_end0
      exact ⟨rfl, Only.refl _ _⟩
  · obtain ⟨g, cap, rfl, _, _⟩ := h.form (by omega)
    have hl63 : l.length ≤ 9223372036854775807 := by
      rcases h.2 with ⟨h', _⟩ | ⟨_, _, _, _, _, _, hle, hm, _⟩
      · simp at h'
      · unfold maxLen at hm; omega
    have H := Lib.hid h; clear h
    generalize hn : l.length = n at H hl63 h0 ⊢
    go_enter Try.func55, Try.ntmps55
    go_wp2_with fail
    go_loopw [4] (fun i wr => ∃ k xs, k ≤ n ∧ i = .int .i64 k ∧ wr.ownsRow B 2 1 (.slice (some ⟨g, 0, none⟩) n cap) n xs ∧ Only (fun j => j = g) w wr) (fun i _ => n - (intOf i).toNat)
    case atStart => exact ⟨0, _, Nat.zero_le _, rfl, H.out, Only.refl _ _⟩
    case round =>
      obtain ⟨k, xs, hk, rfl, hrow, hO⟩ := hrel
      by_cases hlt : k < n
      · have hxl : k < xs.length := by have := hrow.1; omega
        have hc := hrow.cellAt k (by omega)
        rw [List.getElem?_eq_getElem hxl] at hc
        have hW := wipeInt64_any g k _ wr hc (hrow.frozenAt k)
        have hst := (hrow.stored k (.int .i64 (-77))).1
        have HST := Lib.hid hst
        have HO := Lib.hid (hO.setCell (p := ⟨g, k, none⟩) (.inl rfl) (.int .i64 (-77)))
        clear hc hrow hO hst
        go_wp2_with fail
        refine hW.mono ?_
        rintro e w2 ⟨rfl, rfl⟩
        clear hW
        go_wp2
        go_roundw
        case rel => exact ⟨k + 1, _, by omega, by go_num, HST.out, HO.out⟩
        case measure => simp [intOf]; omega
      · have HO := Lib.hid hO; clear hO hrow
        go_wp2
        go_end0
        exact ⟨rfl, HO.out.mono (fun k _ h => by subst h; rfl)⟩

set_option maxHeartbeats 1000000 in
set_option maxRecDepth 100000 in
theorem wipeInt64s_any (B nb : Nat) (v : Value) (l : List Int) (w : World) (h : w.ownsRow B 2 1 v l.length (l.map (.int .i64))) (hc : w.cell? ⟨nb, 0, none⟩ = some v) :
    Calls Try.prog 25 #[.pointer (some ⟨nb, 0, none⟩)] w fun e w' => e = .returned (.tuple #[]) ∧ Only (fun k => v.ownBlock = some k) w w' := by
  have hW := wipes_any B v l w h
  obtain ⟨a, n, c, rfl⟩ : ∃ a n c, v = .slice a n c := by
    rcases h.2 with ⟨rfl, _⟩ | ⟨g, cap, cur, rfl, _⟩ <;> exact ⟨_, _, _, rfl⟩
  clear h
  go_enter Try.func25, Try.ntmps25
  go_wp2_with fail
  refine hW.mono ?_
  rintro e w2 ⟨rfl, hO⟩
  go_wp2
  go_end0
  exact ⟨rfl, hO⟩

theorem flat_one {α β : Type} (f : α → β) (l : List α) : l.flatMap (fun a => [f a]) = l.map f := by
  induction l with
  | nil => rfl
  | cons a l ih => simp [ih]
theorem flat_none {α β : Type} (l : List α) : l.flatMap (fun _ => ([] : List β)) = [] := by
  induction l with
  | nil => rfl
  | cons a l ih => simp
theorem enc_row {w : World} {B : Nat} {v : Value} {l : List Int} (h : w.ownsRow B 2 1 v l.length (l.map (.int .i64))) : Enc (fun k => v.ownBlock = some k) w (.list (.num .i64)) [v] ((l.length : Int) :: l) [] := by
  have hs := ownsRow_slice h
  have := Enc.list (D := fun k => v.ownBlock = some k) (w := w) (e := .num .i64) (v := v) (l.map fun x => ([Value.int .i64 x], [x], []))
    (by rw [List.flatMap_map]; simp only [flat_one]; exact hs) (by simp [Sh.size])
    (fun r hr => by obtain ⟨x, _, rfl⟩ := List.mem_map.1 hr; rfl) (fun r hr => by obtain ⟨x, _, rfl⟩ := List.mem_map.1 hr; exact .num _ _)
  rw [List.flatMap_map, List.flatMap_map, List.length_map] at this
  simp only [flat_one, flat_none, List.map_id'] at this
  exact this

theorem step_pure {hb : Nat} {w w' : World} {ns : List Int} {ss : List ByteArray} (h : HeapIs hb w ns ss) (hp : Pure w w') : Step hb w w' ∧ HeapIs hb w' ns ss := by
  obtain ⟨vn, vs, hh, _, _⟩ := id h
  exact ⟨⟨hp.mono (fun _ _ f => f.elim), fun k hk => .inl (in_stay hp hh (fun f => f) hk)⟩, h.keep hp (fun _ _ f => f)⟩

theorem nothing_any (w : World) : Calls Try.prog 9 #[] w fun e w' => e = .returned (.tuple #[]) ∧ Only (fun _ => False) w w' := by
  go_enter Try.func9, Try.ntmps9
  go_wp2
  go_end0
  exact ⟨rfl, Only.refl _ _⟩

end Go.Proofs.Ytcephfmafmmilaa
