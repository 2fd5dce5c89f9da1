/-
  Lists of numbers, out of their shape.
-/
import Derived.Test.YtcephfmafmmilaaTrod
import Derived.Test.YtcephfmafmmilaaOwn
namespace Go.Proofs.Ytcephfmafmmilaa
open Go.RowKit

theorem ints_of_enc {D : Nat → Prop} {w : World} {v : Value} {ns : List Int} {ss : List ByteArray} (h : Enc D w (.list (.num .i64)) [v] ns ss) : ∃ l, Ints D w v l := by
  cases h with
  | list rows hs hpos hlen hrows =>
    obtain ⟨l, hl, hq⟩ := build_list (Q := fun i (x : Int) => ∀ r, rows[i]? = some r → r.1 = [.int .i64 x]) rows.length (fun i hi => by
      obtain ⟨n, hn, _, _⟩ := (hrows _ (List.getElem_mem hi)).open_num'
      exact ⟨n, fun r hr => by rw [List.getElem?_eq_getElem hi] at hr; cases hr; exact hn⟩)
    obtain ⟨a, len, cap, rfl, hcl, hle, hcm, hc⟩ := hs
    have hsz : (Sh.num .i64).size = 1 := by simp [Sh.size]
    have hll : len = rows.length := by
      have := flat_length (·.1) (Sh.num .i64).size rows hlen
      rw [hcl, hsz] at this; omega
    refine ⟨l, a, len, cap, rfl, by omega, hle, by unfold maxLen at hcm; omega, fun i hi => ?_⟩
    obtain ⟨b, off, rfl, hD, hcell⟩ := hc (by omega)
    refine ⟨b, off, rfl, hD, ?_⟩
    have hi' : i < rows.length := by omega
    have hg := flat_get (·.1) (Sh.num .i64).size rows hlen i 0 hi' (by omega)
    have hil : i < l.length := by omega
    rw [hq i (l[i]) (List.getElem?_eq_getElem hil) _ (List.getElem?_eq_getElem hi')] at hg
    have := hcell _ _ hg
    rw [hsz] at this
    simpa [hil] using this
end Go.Proofs.Ytcephfmafmmilaa
