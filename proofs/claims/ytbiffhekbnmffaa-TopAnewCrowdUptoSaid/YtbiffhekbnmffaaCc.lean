/-
  The last minutes of all; falls and bounds.
-/
import Derived.Test.YtbiffhekbnmffaaCb
namespace Go.Proofs.Ytbiffhekbnmffaa
open Go.RowKit

theorem pAt_get (l : List Person) (k : Nat) (h : k < l.length) : l[k]? = some (pAt l k) := by unfold pAt; rw [List.getElem?_eq_getElem h]; rfl
theorem map_take_succ {β : Type} (f : Person → β) (l : List Person) (k : Nat) (h : k < l.length) : (l.take (k + 1)).map f = (l.take k).map f ++ [f (pAt l k)] := by
  rw [List.take_add_one, pAt_get l k h]; simp
def lastsTo (l : List Person) (k : Nat) : List Int := (l.take k).map lastP
theorem lastsTo_len (l : List Person) (k : Nat) (h : k ≤ l.length) : (lastsTo l k).length = k := by unfold lastsTo; simp; omega
theorem lastsTo_succ (l : List Person) (k : Nat) (h : k < l.length) : (lastsTo l (k + 1)).map (Value.int .i64) = (lastsTo l k).map (.int .i64) ++ [.int .i64 (lastP (pAt l k))] := by
  unfold lastsTo; rw [map_take_succ lastP l k h]; simp
theorem lastsTo_all (h : Hall) (k : Nat) (hk : h.people.length ≤ k) : lastsTo h.people k = lastsOf h := by unfold lastsTo lastsOf; rw [List.take_of_length_le hk]

set_option maxHeartbeats 1000000 in
set_option maxRecDepth 100000 in
theorem lasts_any (D : Nat → Prop) (b : Nat) (h : Hall) (w : World) (hF : FloorAt D w b h) (h30 : h.people.length ≤ 30) :
    Calls Try.prog 43 #[.pointer (some ⟨b, 0, none⟩)] w fun e w' => ∃ v, e = .returned v ∧ w'.ownsRow w.heap.size 2 1 v (lastsOf h).length ((lastsOf h).map (.int .i64)) ∧ Pure w w' := by
  have hF0 := hF
  obtain ⟨pv, hb, a, len, cap, rfl, hlen, _, hm, hc⟩ := hF
  obtain ⟨i0, hi, hz0, hz1, hz2⟩ := info_parts infoI64
  have d1 : w.cell? ⟨b, 1, none⟩ = some (.slice a len cap) := cell_of_row _ _ _ _ _ _ hb
  rw [← hlen] at h30
  have HF := Lib.hid hF0; have HL := Lib.hid hlen; have HC := Lib.hid hc
  clear hF0 hlen hc hb
  go_enter Try.func43, Try.ntmps43
  go_wp2
  go_loopw [14, 3] (fun i al wr => ∃ (k : Nat) (ao : Option Addr) (ac : Nat), k ≤ len ∧ i = .int .i64 k ∧ al = .slice ao k ac ∧ k ≤ ac ∧ (ao = none → k = 0) ∧ Hid (wr.ownsRow w.heap.size 2 1 (.slice ao k ac) k ((lastsTo h.people k).map (.int .i64))) ∧ Pure w wr) (fun i _ _ => len - (intOf i).toNat)
  case atStart => exact ⟨0, none, 0, Nat.zero_le _, rfl, rfl, Nat.le_refl _, fun _ => rfl, Lib.hid (World.ownsRow_nil _ _ _ _), Only.refl _ _⟩
  case round =>
    obtain ⟨k, ao, ac, hk, rfl, rfl, hac, hao, hrow, hP⟩ := hrel
    by_cases hlt : k < len
    · obtain ⟨g, off, rfl, _, c0, c1, c2⟩ := HC.out k hlt
      have hts := lastsTo_succ h.people k (by rw [← HL.out]; exact hlt)
      have hlk : (lastsTo h.people k).length = k := lastsTo_len _ _ (by rw [← HL.out]; omega)
      have HLK := Lib.hid hlk
      have hW := fun o => window_any D b h k (wr.alloc o) (HF.out.pure (hP.alloc o)) (by rw [← HL.out]; exact hlt)
      obtain ⟨p, hp⟩ : ∃ p, pAt h.people k = p := ⟨_, rfl⟩
      rw [hp] at c0 c1 c2 hW hts
      obtain ⟨⟨la, un⟩, hq⟩ : ∃ q, windowP p = q := ⟨_, rfl⟩
      rw [hq] at hW
      have HQ := Lib.hid hq
      have hts := Lib.hid hts
      have h0 := hP.cell c0 (fun f => f)
      have h1 := hP.cell c1 (fun f => f)
      have h2 := hP.cell c2 (fun f => f)
      clear hp hq c0 c1 c2 hlk
      go_wp2_with fail
      refine (hW _).mono ?_
      rintro e w2 ⟨rfl, P2⟩
      have Q2 := hP.trans P2.of_alloc
      have g0 := P2.cell (p := ⟨wr.heap.size, 0, none⟩) (v := .int .i64 p.lo) (by simp) (fun f => f)
      have HROW := Lib.hid (owns_pure hrow.out P2.of_alloc)
      clear hW P2 hP h0 h1 h2 hrow
      dsimp only
      by_cases hu : un = 0
      all_goals
        have hlast : lastP p = if un = 0 then p.lo else la := by unfold lastP; rw [HQ.out]
        first | rw [if_pos hu] at hlast | rw [if_neg hu] at hlast
        rw [hlast] at hts
        have HTS := Lib.hid hts.out
        clear hlast hts
        go_wp2_with (at_builtin; refine wpList_append_grows _ rfl _ _ 25 rfl 2 i0 (.int .i64 0) 1 8 Try.underlying25 hi hz0 hz1 hz2 rfl (by decide) ao k k ((lastsTo h.people k).map (.int .i64)) rfl ?_ ?_ (owns_cells HROW.out ((Only.refl _ w2).alloc _)) ⟨w2.heap.size, 0, none⟩ 1 1 [_] rfl rfl (cell_one_new _ _ _) ?_ ?_ ?_ ?_ ?_)
        · exact fun h => ⟨hao h, hao h⟩
        · rw [List.length_map, HLK.out]; omega
        · intro u hu; simp at hu; subst hu; rfl
        · omega
        · unfold maxLen; omega
        · omega
        intro v' w3 hown hg
        obtain ⟨ao', ac', rfl, hle', _, hn', _⟩ := owns_form hown
        have hP3 := pure_of_grown hg
        have HR := Lib.hid (show w3.ownsRow w.heap.size 2 1 (.slice ao' (k + 1) ac') (k + 1) ((lastsTo h.people (k + 1)).map (.int .i64)) from by
          rw [HTS.out]; exact owns_le hown (by have := Q2.size; omega))
        have Q3 := Q2.trans hP3.of_alloc
        clear hown hg hP3
        go_wp2
        go_roundw
        case rel => exact ⟨k + 1, ao', ac', by omega, by go_num, rfl, hle', (fun h => (hn' h).1), HR, Q3⟩
        case measure => simp [intOf]; omega
    · go_wp2
      go_ret
      have hall : lastsTo h.people k = lastsOf h := lastsTo_all h k (by rw [← HL.out]; omega)
      have hr := hrow.out
      rw [hall] at hr
      have hk2 : k = (lastsOf h).length := by have := hr.1; simp at this; omega
      exact ⟨_, rfl, by rw [← hk2]; exact hr, hP⟩
end Go.Proofs.Ytbiffhekbnmffaa
