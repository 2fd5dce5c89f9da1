/-
  Spans: how long they are, who falls into them, their bounds.
-/
import Derived.Test.YtbiffhekbnmffaaCc
namespace Go.Proofs.Ytbiffhekbnmffaa
open Go.RowKit

set_option maxHeartbeats 400000 in
theorem long_any (s : Int × Int) (w : World) (h0 : 0 ≤ s.1) (h1 : s.1 ≤ 61) (h2 : 0 ≤ s.2) (h3 : s.2 ≤ 61) :
    Calls Try.prog 52 #[.agg #[.int .i64 s.1, .int .i64 s.2]] w fun e w' => e = .returned (.int .i64 (longOf s)) ∧ Pure w w' := by
  obtain ⟨a, b⟩ := s
  dsimp only at h0 h1 h2 h3
  go_enter Try.func52, Try.ntmps52
  go_wp2
  go_ret
  exact ⟨rfl, (Only.refl _ w).alloc _⟩

def fallsTo (l : List Person) (s : Int × Int) (k : Nat) : Int := fallsOf (l.take k) s
theorem fallsTo_bd (l : List Person) (s : Int × Int) (k : Nat) : 0 ≤ fallsTo l s k ∧ fallsTo l s k ≤ k := by
  unfold fallsTo fallsOf
  have := List.countP_le_length (p := fallsP s) (l := l.take k)
  rw [List.length_take] at this
  omega
theorem fallsTo_succ (l : List Person) (s : Int × Int) (k : Nat) (h : k < l.length) : fallsTo l s (k + 1) = fallsTo l s k + if fallsP s (pAt l k) then 1 else 0 := by
  unfold fallsTo fallsOf
  rw [List.take_add_one, pAt_get l k h, List.countP_append]
  by_cases hq : fallsP s (pAt l k) = true
  · simp [hq]
  · simp [hq]
theorem fallsTo_all (l : List Person) (s : Int × Int) (k : Nat) (h : l.length ≤ k) : fallsTo l s k = fallsOf l s := by unfold fallsTo; rw [List.take_of_length_le h]

set_option maxHeartbeats 1000000 in
set_option maxRecDepth 100000 in
theorem falls_any (D : Nat → Prop) (b : Nat) (h : Hall) (s : Int × Int) (w : World) (hF : FloorAt D w b h) :
    Calls Try.prog 53 #[.pointer (some ⟨b, 0, none⟩), .agg #[.int .i64 s.1, .int .i64 s.2]] w fun e w' => e = .returned (.int .i64 (fallsOf h.people s)) ∧ Pure w w' := by
  have hF0 := hF
  obtain ⟨pv, hb, a, len, cap, rfl, hlen, _, hm, hc⟩ := hF
  have d1 := ((Only.refl (fun _ => False) w).alloc (.cells #[.int .i64 s.1, .int .i64 s.2] 86)).cell (cell_of_row _ _ _ _ _ _ hb : w.cell? ⟨b, 1, none⟩ = some (.slice a len cap)) (fun f => f)
  have hP0 : Pure w (w.alloc (.cells #[.int .i64 s.1, .int .i64 s.2] 86)) := (Only.refl _ w).alloc _
  have HF := Lib.hid hF0; have HL := Lib.hid hlen; have HP0 := Lib.hid hP0
  clear hF0 hlen hc hb hP0
  obtain ⟨s1, s2⟩ := s
  dsimp only
  go_enter Try.func53, Try.ntmps53
  go_wp2
  go_loopw [15, 5] (fun i n wr => ∃ k : Nat, k ≤ len ∧ i = .int .i64 k ∧ n = .int .i64 (fallsTo h.people (s1, s2) k) ∧ wr.cell? ⟨w.heap.size, 0, none⟩ = some (.int .i64 s1) ∧ wr.cell? ⟨w.heap.size, 1, none⟩ = some (.int .i64 s2) ∧ Pure w wr) (fun i _ _ => len - (intOf i).toNat)
  case atStart => exact ⟨0, Nat.zero_le _, rfl, rfl, by simp, by simp, HP0.out⟩
  case round =>
    obtain ⟨k, hk, rfl, rfl, g0, g1, hP⟩ := hrel
    have hbd := fallsTo_bd h.people (s1, s2) k
    by_cases hlt : k < len
    · have hts := Lib.hid (fallsTo_succ h.people (s1, s2) k (by rw [← HL.out]; exact hlt))
      have hW := window_any D b h k wr (HF.out.pure hP) (by rw [← HL.out]; exact hlt)
      obtain ⟨p, hp⟩ : ∃ p, pAt h.people k = p := ⟨_, rfl⟩
      rw [hp] at hW hts
      obtain ⟨⟨la, un⟩, hq⟩ : ∃ q, windowP p = q := ⟨_, rfl⟩
      rw [hq] at hW
      have hfp : fallsP (s1, s2) p = (decide (0 < un) && (decide (s1 ≤ la) && decide (un ≤ s2))) := by unfold fallsP; rw [hq]
      rw [hfp] at hts
      clear hp hq hfp
      go_wp2_with fail
      refine hW.mono ?_
      rintro e w2 ⟨rfl, P2⟩
      have Q2 := hP.trans P2
      have k0 := P2.cell g0 (fun f => f)
      have k1 := P2.cell g1 (fun f => f)
      clear hW P2 hP g0 g1
      dsimp only
      by_cases c1 : 0 < un
      · by_cases c2 : s1 ≤ la
        · by_cases c3 : un ≤ s2
          · have hts2 := Lib.hid (by rw [hts.out, if_pos (by simp [c1, c2, c3])] : fallsTo h.people (s1, s2) (k + 1) = fallsTo h.people (s1, s2) k + 1)
            clear hts
            go_wp2
            go_roundw
            case rel => exact ⟨k + 1, by omega, by go_num, by rw [hts2.out], k0, k1, Q2⟩
            case measure => simp [intOf]; omega
          · have hts2 := Lib.hid (by rw [hts.out, if_neg (by simp; omega)]; simp : fallsTo h.people (s1, s2) (k + 1) = fallsTo h.people (s1, s2) k)
            clear hts
            go_wp2
            go_roundw
            case rel => exact ⟨k + 1, by omega, by go_num, by rw [hts2.out], k0, k1, Q2⟩
            case measure => simp [intOf]; omega
        · have hts2 := Lib.hid (by rw [hts.out, if_neg (by simp; omega)]; simp : fallsTo h.people (s1, s2) (k + 1) = fallsTo h.people (s1, s2) k)
          clear hts
          go_wp2
          go_roundw
          case rel => exact ⟨k + 1, by omega, by go_num, by rw [hts2.out], k0, k1, Q2⟩
          case measure => simp [intOf]; omega
      · have hts2 := Lib.hid (by rw [hts.out, if_neg (by simp; omega)]; simp : fallsTo h.people (s1, s2) (k + 1) = fallsTo h.people (s1, s2) k)
        clear hts
        go_wp2
        go_roundw
        case rel => exact ⟨k + 1, by omega, by go_num, by rw [hts2.out], k0, k1, Q2⟩
        case measure => simp [intOf]; omega
    · go_wp2
      go_ret
      exact ⟨by rw [← fallsTo_all h.people (s1, s2) k (by rw [← HL.out]; omega)]; rfl, hP⟩

theorem falls_bd (l : List Person) (s : Int × Int) : 0 ≤ fallsOf l s ∧ fallsOf l s ≤ l.length := by
  unfold fallsOf
  have := List.countP_le_length (p := fallsP s) (l := l)
  omega

set_option maxHeartbeats 1000000 in
set_option maxRecDepth 100000 in
theorem bound_any (D : Nat → Prop) (b : Nat) (h : Hall) (s : Int × Int) (w : World) (hF : FloorAt D w b h) (h30 : h.people.length ≤ 30) (h0 : 0 ≤ s.1) (h1 : s.1 ≤ s.2) (h3 : s.2 ≤ 60) :
    Calls Try.prog 49 #[.pointer (some ⟨b, 0, none⟩), .agg #[.int .i64 s.1, .int .i64 s.2]] w fun e w' => e = .returned (.int .i64 (boundOf h.people s)) ∧ Pure w w' := by
  have hP0 : Pure w (w.alloc (.cells #[.int .i64 s.1, .int .i64 s.2] 86)) := (Only.refl _ w).alloc _
  have HF := Lib.hid (hF.pure hP0)
  have hbd := falls_bd h.people s
  have hl : longOf s = s.2 - s.1 + 1 := rfl
  have hB : boundOf h.people s = (fallsOf h.people s + longOf s - 1) / longOf s := rfl
  have hlong := fun W => long_any s W h0 (by omega) (by omega) (by omega)
  have hfalls := fun W hW => falls_any D b h s W hW
  obtain ⟨f, hf⟩ : ∃ f, fallsOf h.people s = f := ⟨_, rfl⟩
  obtain ⟨l, hl2⟩ : ∃ l, longOf s = l := ⟨_, rfl⟩
  rw [hf] at hbd hB
  simp only [hf] at hfalls
  rw [hl2] at hl hB
  simp only [hl2] at hlong
  have hl1 : 1 ≤ l := by omega
  have hl60 : l ≤ 61 := by omega
  rw [hB]
  have HLO := Lib.hid hlong; have HFA := Lib.hid hfalls; have HP0 := Lib.hid hP0
  obtain ⟨s1, s2⟩ := s
  clear hF hB hl hl2 hf hlong hfalls hP0
  dsimp only at *
  have e1 : wrap64 (f + l) = f + l := by unfold wrap64; omega
  have e2 : wrap64 (f + l - 1) = f + l - 1 := by unfold wrap64; omega
  have hq0 : 0 ≤ (f + l - 1) / l := Int.ediv_nonneg (by omega) (by omega)
  have hq1 : (f + l - 1) / l ≤ f + l - 1 := Int.ediv_le_self _ (by omega)
  have e3 : wrap64 ((f + l - 1).tdiv l) = (f + l - 1) / l := by rw [Int.tdiv_eq_ediv_of_nonneg (by omega)]; unfold wrap64; omega
  have E1 := Lib.hid e1; have E2 := Lib.hid e2; have E3 := Lib.hid e3
  clear e1 e2 e3
  go_enter Try.func49, Try.ntmps49
  go_wp2_with fail
  have c0 : (w.alloc (Obj.cells #[Value.int IntKind.i64 s1, Value.int IntKind.i64 s2] 86)).cell? ⟨w.heap.size, 0, none⟩ = some (.int .i64 s1) := by simp
  have c1 : (w.alloc (Obj.cells #[Value.int IntKind.i64 s1, Value.int IntKind.i64 s2] 86)).cell? ⟨w.heap.size, 1, none⟩ = some (.int .i64 s2) := by simp
  have g0 := fun g => grow_cell c0 g; have g1 := fun g => grow_cell c1 g
  refine wp_region_grow (by kernel_rfl) (by kernel_rfl) ?_
  repeat (go_big_quiet_step (first | exact calls_grow (HFA.out _ (HF.out.pure (grow_pure _ _))) | exact calls_grow (HLO.out _)))
  refine wpQuiet_nil ?_
  rintro w' ⟨g, rfl⟩
  go_wp2
  go_ret
  exact ⟨by first | rfl | (rw [E1.out, E2.out, E3.out]), HP0.out.trans (grow_pure _ _)⟩
end Go.Proofs.Ytbiffhekbnmffaa
