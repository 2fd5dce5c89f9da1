/-
  The argument's data, out of its shape.
-/
import Derived.Test.YtcephfmafmmilaaMj
import Derived.Test.YtcephfmafmmilaaData
namespace Go.Proofs.Ytcephfmafmmilaa
open Go.RowKit

theorem lists_of_enc {D : Nat → Prop} {w : World} {v : Value} {ns : List Int} {ss : List ByteArray} (h : Enc D w (.list (.list (.num .i64))) [v] ns ss) : ∃ l, Lists D w v l := by
  cases h with
  | list rows hs hpos hlen hrows =>
    have hsz : (Sh.list (.num .i64)).size = 1 := by simp [Sh.size]
    obtain ⟨l, hl, hq⟩ := build_list (Q := fun i (x : List Int) => ∀ r, rows[i]? = some r → ∃ u, r.1 = [u] ∧ Ints D w u x) rows.length (fun i hi => by
      have he := hrows _ (List.getElem_mem hi)
      have hl2 := hlen _ (List.getElem_mem hi)
      rw [hsz] at hl2
      generalize hx : (rows[i]).1 = cs at he hl2
      match cs, hl2 with
      | [c0], _ =>
        obtain ⟨x, hi2⟩ := ints_of_enc he
        exact ⟨x, fun r hr => by rw [List.getElem?_eq_getElem hi] at hr; cases hr; exact ⟨c0, hx, hi2⟩⟩)
    obtain ⟨a, len, cap, rfl, hcl, hle, hcm, hc⟩ := hs
    have hll : len = rows.length := by
      have := flat_length (·.1) (Sh.list (.num .i64)).size rows hlen
      rw [hcl, hsz] at this; omega
    refine ⟨l, a, len, cap, rfl, by omega, hle, by unfold maxLen at hcm; omega, fun i hi => ?_⟩
    obtain ⟨b, off, rfl, hD, hcell⟩ := hc (by omega)
    have hi' : i < rows.length := by omega
    have hil : i < l.length := by omega
    obtain ⟨u, hu, hI⟩ := hq i (l[i]) (List.getElem?_eq_getElem hil) _ (List.getElem?_eq_getElem hi')
    have hg := flat_get (·.1) (Sh.list (.num .i64)).size rows hlen i 0 hi' (by omega)
    rw [hu, hsz] at hg
    refine ⟨b, off, u, rfl, hD, by simpa using hcell _ _ hg, ?_⟩
    have : lAt l i = l[i] := by simp [lAt, hil]
    rw [this]; exact hI
end Go.Proofs.Ytcephfmafmmilaa
