/-
  The argument's data, out of its shape.
-/
import Derived.Test.YtbiffhekbnmffaaDc
import Derived.Test.YtbiffhekbnmffaaData
namespace Go.Proofs.Ytbiffhekbnmffaa
open Go.RowKit

abbrev personSh : Sh := .agg [.agg [.num .i64, .num .i64], .num .i64]
theorem people_of_enc {D : Nat → Prop} {w : World} {v : Value} {ns : List Int} {ss : List ByteArray} (h : Enc D w (.list personSh) [v] ns ss) : ∃ l, People D w v l := by
  cases h with
  | list rows hs hpos hlen hrows =>
    have hsz : personSh.size = 3 := by simp [Sh.size, Sh.sizes]
    obtain ⟨l, hl, hq⟩ := build_list (Q := fun i (p : Person) => ∀ r, rows[i]? = some r → r.1 = [.int .i64 p.lo, .int .i64 p.hi, .int .i64 p.til]) rows.length (fun i hi => by
      have he := hrows _ (List.getElem_mem hi)
      have hl2 := hlen _ (List.getElem_mem hi)
      rw [hsz] at hl2
      generalize hx : (rows[i]).1 = cs at he hl2
      match cs, hl2 with
      | [c0, c1, c2], _ =>
        obtain ⟨_, _, _, _, _, _, e0, r0⟩ := Enc.split (l1 := [c0, c1]) (l2 := [c2]) he rfl
        obtain ⟨_, _, _, _, _, _, e2, r2⟩ := Enc.split (l1 := [c2]) (l2 := []) r0 rfl
        obtain ⟨_, _, _, _, _, _, f0, q0⟩ := Enc.split (l1 := [c0]) (l2 := [c1]) e0 rfl
        obtain ⟨_, _, _, _, _, _, f1, q1⟩ := Enc.split (l1 := [c1]) (l2 := []) q0 rfl
        obtain ⟨x, rfl, _, _⟩ := f0.open_num
        obtain ⟨y, rfl, _, _⟩ := f1.open_num
        obtain ⟨z, rfl, _, _⟩ := e2.open_num
        exact ⟨⟨x, y, z⟩, fun r hr => by rw [List.getElem?_eq_getElem hi] at hr; cases hr; exact hx⟩)
    obtain ⟨a, len, cap, rfl, hcl, hle, hcm, hc⟩ := hs
    have hll : len = rows.length := by
      have := flat_length (·.1) personSh.size rows hlen
      rw [hcl, hsz] at this; omega
    refine ⟨l, a, len, cap, rfl, by omega, hle, by unfold maxLen at hcm; omega, fun i hi => ?_⟩
    obtain ⟨b, off, rfl, hD, hcell⟩ := hc (by omega)
    have hi' : i < rows.length := by omega
    have hil : i < l.length := by omega
    have hr := hq i (l[i]) (List.getElem?_eq_getElem hil) _ (List.getElem?_eq_getElem hi')
    have hp : pAt l i = l[i] := by simp [pAt, hil]
    have get : ∀ j u, j < 3 → [Value.int .i64 (l[i]).lo, .int .i64 (l[i]).hi, .int .i64 (l[i]).til][j]? = some u → w.cell? ⟨b, off + (i * 3 + j), none⟩ = some u := fun j u hj hu => by
      have hg := flat_get (·.1) personSh.size rows hlen i j hi' (by omega)
      rw [hr, hu, hsz] at hg
      exact hcell _ _ hg
    rw [hp]
    exact ⟨b, off, rfl, hD, by simpa using get 0 _ (by decide) rfl, by simpa [Nat.add_assoc] using get 1 _ (by decide) rfl, by simpa [Nat.add_assoc] using get 2 _ (by decide) rfl⟩
end Go.Proofs.Ytbiffhekbnmffaa
