/-
  The argument's data, out of its shape.
-/
import Derived.Test.YtngkmfddamaegaaPu
import Derived.Test.YtngkmfddamaegaaTrod
namespace Go.Proofs.Ytngkmfddamaegaa
open Go.RowKit

theorem ints_of_enc {D : Nat → Prop} {w : World} {v : Value} {ns : List Int} {ss : List ByteArray} (h : Enc D w (.list (.num .i64)) [v] ns ss) : ∃ l, Ints D w v l := by
  cases h with
  | list rows hs hpos hlen hrows =>
    obtain ⟨l, hl, hq⟩ := build_list (Q := fun i (x : Int) => ∀ r, rows[i]? = some r → r.1 = [.int .i64 x]) rows.length (fun i hi => by
      obtain ⟨n, hn, _, _⟩ := (hrows _ (List.getElem_mem hi)).open_num'
      exact ⟨n, fun r hr => by rw [List.getElem?_eq_getElem hi] at hr; cases hr; exact hn⟩)
    obtain ⟨a, len, cap, rfl, hcl, hle, hcm, hc⟩ := hs
    have hsz : (Sh.num .i64).size = 1 := by simp [Sh.size]
    have hll : len = rows.length := by
      have := flat_length (·.1) (Sh.num .i64).size rows hlen
      rw [hcl, hsz] at this; omega
    refine ⟨l, a, len, cap, rfl, by omega, hle, by unfold maxLen at hcm; omega, fun i hi => ?_⟩
    obtain ⟨b, off, rfl, hD, hcell⟩ := hc (by omega)
    refine ⟨b, off, rfl, hD, ?_⟩
    have hi' : i < rows.length := by omega
    have hg := flat_get (·.1) (Sh.num .i64).size rows hlen i 0 hi' (by omega)
    have hil : i < l.length := by omega
    rw [hq i (l[i]) (List.getElem?_eq_getElem hil) _ (List.getElem?_eq_getElem hi')] at hg
    have := hcell _ _ hg
    rw [hsz] at this
    simpa [hil] using this

theorem ranges_of_enc {D : Nat → Prop} {w : World} {v : Value} {ns : List Int} {ss : List ByteArray} (h : Enc D w (.list (.agg [.num .i64, .num .i64])) [v] ns ss) : ∃ l, Ranges D w v l := by
  cases h with
  | list rows hs hpos hlen hrows =>
    have hsz : (Sh.agg [.num .i64, .num .i64]).size = 2 := by simp [Sh.size, Sh.sizes]
    obtain ⟨l, hl, hq⟩ := build_list (Q := fun i (x : Int × Int) => ∀ r, rows[i]? = some r → r.1 = [.int .i64 x.1, .int .i64 x.2]) rows.length (fun i hi => by
      have he := hrows _ (List.getElem_mem hi)
      have hl2 := hlen _ (List.getElem_mem hi)
      rw [hsz] at hl2
      generalize hx : (rows[i]).1 = cs at he hl2
      match cs, hl2 with
      | [c0, c1], _ =>
        obtain ⟨n0, m0, t0, u0, _, _, e0, r0⟩ := Enc.split (l1 := [c0]) (l2 := [c1]) he rfl
        obtain ⟨n1, m1, t1, u1, _, _, e1, r1⟩ := Enc.split (l1 := [c1]) (l2 := []) r0 rfl
        obtain ⟨x, rfl, _, _⟩ := e0.open_num
        obtain ⟨y, rfl, _, _⟩ := e1.open_num
        exact ⟨(x, y), fun r hr => by rw [List.getElem?_eq_getElem hi] at hr; cases hr; exact hx⟩)
    obtain ⟨a, len, cap, rfl, hcl, hle, hcm, hc⟩ := hs
    have hll : len = rows.length := by
      have := flat_length (·.1) (Sh.agg [.num .i64, .num .i64]).size rows hlen
      rw [hcl, hsz] at this; omega
    refine ⟨l, a, len, cap, rfl, by omega, hle, by unfold maxLen at hcm; omega, fun i hi => ?_⟩
    obtain ⟨b, off, rfl, hD, hcell⟩ := hc (by omega)
    have hi' : i < rows.length := by omega
    have hil : i < l.length := by omega
    have hg0 := flat_get (·.1) (Sh.agg [.num .i64, .num .i64]).size rows hlen i 0 hi' (by omega)
    have hg1 := flat_get (·.1) (Sh.agg [.num .i64, .num .i64]).size rows hlen i 1 hi' (by omega)
    rw [hq i (l[i]) (List.getElem?_eq_getElem hil) _ (List.getElem?_eq_getElem hi')] at hg0 hg1
    have h0 := hcell _ _ hg0
    have h1 := hcell _ _ hg1
    rw [hsz] at h0 h1
    refine ⟨b, off, rfl, hD, ?_, ?_⟩
    · simpa [hil] using h0
    · simpa [hil, Nat.add_assoc] using h1

abbrev poolSh : Sh := .agg [.list (.agg [.num .i64, .num .i64]), .num .i64, .num .i64, .num .i64, .num .i64]
theorem pool_of_enc {D : Nat → Prop} {w : World} {c0 c1 c2 c3 c4 : Value} {ns : List Int} {ss : List ByteArray} (h : Enc D w poolSh [c0, c1, c2, c3, c4] ns ss) :
    ∃ (p : Pool) (a : Option Addr) (n c : Nat), c0 = .slice a n c ∧ c1 = .int .i64 p.per ∧ c2 = .int .i64 p.pence ∧ c3 = .int .i64 p.keep ∧ c4 = .int .i64 p.step ∧ Ranges D w (.slice a n c) p.tickets := by
  obtain ⟨_, _, _, _, _, _, e0, r0⟩ := Enc.split (l1 := [c0]) (l2 := [c1, c2, c3, c4]) h rfl
  obtain ⟨_, _, _, _, _, _, e1, r1⟩ := Enc.split (l1 := [c1]) (l2 := [c2, c3, c4]) r0 rfl
  obtain ⟨_, _, _, _, _, _, e2, r2⟩ := Enc.split (l1 := [c2]) (l2 := [c3, c4]) r1 rfl
  obtain ⟨_, _, _, _, _, _, e3, r3⟩ := Enc.split (l1 := [c3]) (l2 := [c4]) r2 rfl
  obtain ⟨_, _, _, _, _, _, e4, r4⟩ := Enc.split (l1 := [c4]) (l2 := []) r3 rfl
  obtain ⟨l, hl⟩ := ranges_of_enc e0
  obtain ⟨a, n, c, rfl, _⟩ := id hl
  obtain ⟨x1, rfl, _, _⟩ := e1.open_num
  obtain ⟨x2, rfl, _, _⟩ := e2.open_num
  obtain ⟨x3, rfl, _, _⟩ := e3.open_num
  obtain ⟨x4, rfl, _, _⟩ := e4.open_num
  exact ⟨⟨l, x1, x2, x3, x4⟩, a, n, c, rfl, rfl, rfl, rfl, rfl, hl⟩

theorem pools_of_enc {D : Nat → Prop} {w : World} {v : Value} {ns : List Int} {ss : List ByteArray} (h : Enc D w (.list poolSh) [v] ns ss) : ∃ l, PoolsAt D w v l := by
  cases h with
  | list rows hs hpos hlen hrows =>
    have hsz : poolSh.size = 5 := by simp [Sh.size, Sh.sizes]
    obtain ⟨l, hl, hq⟩ := build_list (Q := fun i (p : Pool) => ∀ r, rows[i]? = some r → ∃ tk, r.1 = [tk, .int .i64 p.per, .int .i64 p.pence, .int .i64 p.keep, .int .i64 p.step] ∧ Ranges D w tk p.tickets) rows.length (fun i hi => by
      have he := hrows _ (List.getElem_mem hi)
      have hl2 := hlen _ (List.getElem_mem hi)
      rw [hsz] at hl2
      generalize hx : (rows[i]).1 = cs at he hl2
      match cs, hl2 with
      | [c0, c1, c2, c3, c4], _ =>
        obtain ⟨p, a, n, c, rfl, rfl, rfl, rfl, rfl, hr⟩ := pool_of_enc he
        exact ⟨p, fun r hr' => by rw [List.getElem?_eq_getElem hi] at hr'; cases hr'; exact ⟨_, hx, hr⟩⟩)
    obtain ⟨a, len, cap, rfl, hcl, hle, hcm, hc⟩ := hs
    have hll : len = rows.length := by
      have := flat_length (·.1) poolSh.size rows hlen
      rw [hcl, hsz] at this; omega
    refine ⟨l, a, len, cap, rfl, by omega, hle, by unfold maxLen at hcm; omega, fun i hi => ?_⟩
    obtain ⟨b, off, rfl, hD, hcell⟩ := hc (by omega)
    have hi' : i < rows.length := by omega
    have hil : i < l.length := by omega
    obtain ⟨tk, hr, hrg⟩ := hq i (l[i]) (List.getElem?_eq_getElem hil) _ (List.getElem?_eq_getElem hi')
    have hp : poolAt l i = l[i] := by simp [poolAt, hil]
    have get : ∀ j u, j < 5 → [tk, .int .i64 (l[i]).per, .int .i64 (l[i]).pence, .int .i64 (l[i]).keep, .int .i64 (l[i]).step][j]? = some u → w.cell? ⟨b, off + (i * 5 + j), none⟩ = some u := fun j u hj hu => by
      have hg := flat_get (·.1) poolSh.size rows hlen i j hi' (by omega)
      rw [hr, hu, hsz] at hg
      exact hcell _ _ hg
    rw [hp]
    exact ⟨b, off, tk, rfl, hD, by simpa using get 0 _ (by decide) rfl, by simpa [Nat.add_assoc] using get 1 _ (by decide) rfl, by simpa [Nat.add_assoc] using get 2 _ (by decide) rfl, by simpa [Nat.add_assoc] using get 3 _ (by decide) rfl, by simpa [Nat.add_assoc] using get 4 _ (by decide) rfl, hrg⟩
end Go.Proofs.Ytngkmfddamaegaa
