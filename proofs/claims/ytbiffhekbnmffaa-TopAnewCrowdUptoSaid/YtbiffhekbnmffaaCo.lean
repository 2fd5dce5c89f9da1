/-
  Plan, Machines, Bound.
-/
import Derived.Test.YtbiffhekbnmffaaCn
namespace Go.Proofs.Ytbiffhekbnmffaa
open Go.RowKit Go.Shelf

theorem serveOf_len (h : Hall) (k : Nat) (come : List Int) : (serveOf h k come).1.length = come.length := (fine_serve h.people k come _).1
theorem serveOf_bd (h : Hall) (k : Nat) (come : List Int) (hl : come.length ≤ 30) (hm : h.minutes ≤ 60) : 0 ≤ (serveOf h k come).2 ∧ (serveOf h k come).2 ≤ 1800 := by
  have := shut_bd h.people k come h.minutes.toNat
  have h2 : (h.minutes.toNat : Int) * come.length ≤ 60 * 30 := Int.mul_le_mul (by omega) (by omega) (by omega) (by omega)
  unfold serveOf
  dsimp only
  omega
theorem lastsOf_len (h : Hall) : (lastsOf h).length = h.people.length := by unfold lastsOf; simp
theorem info2 : (Try.prog.info? 2).map (·.size) = some 1 := by kernel_rfl

set_option maxHeartbeats 4000000 in
set_option maxRecDepth 100000 in
theorem Plan_any (D : Nat → Prop) (pv : Value) (h : Hall) (k : Int) (w : World) (hv : People D w pv h.people) :
    Calls Try.prog 13 #[.agg #[.int .i64 h.minutes, pv], .int .i64 k] w fun e w' => ∃ v, e = .returned (.tuple #[v, .int .i64 (planR h k).2]) ∧ w'.ownsRow w.heap.size 2 1 v (planR h k).1.length ((planR h k).1.map (.int .i64)) ∧ Pure w w' := by
  have hP0 : Pure w (w.alloc (Obj.cells #[.int .i64 h.minutes, pv] 24)) := (Only.refl _ w).alloc _
  have hC := staffed_any D pv h k _ (hv.pure hP0)
  have hS := @staffed_of h k
  have hdef : planR h k = if staffedE h k ≠ 0 then ([], staffedE h k) else if 0 < (serveOf h k.toNat (lastsOf h)).2 then ([], 23) else ((serveOf h k.toNat (lastsOf h)).1, 0) := rfl
  obtain ⟨i0, hi, hz0, hz1, hz2⟩ := info_parts infoI64
  obtain ⟨a, len, cap, rfl⟩ : ∃ a n c, pv = .slice a n c := by obtain ⟨a, n, c, hv, _⟩ := hv; exact ⟨a, n, c, hv⟩
  obtain ⟨s, hs⟩ : ∃ s, staffedE h k = s := ⟨_, rfl⟩
  rw [hs] at hC hS hdef
  obtain ⟨R, hRR⟩ : ∃ R, planR h k = R := ⟨_, rfl⟩
  rw [hRR] at hdef ⊢
  have HD := Lib.hid hdef; have HS := Lib.hid hS
  clear hs hRR hdef hS hv
  go_enter Try.func13, Try.ntmps13
  go_wp2_with fail
  refine hC.mono ?_
  rintro e w1 (⟨h0, rfl, P1⟩ | ⟨rfl, b, rfl, hb, hF, P1⟩)
  · have Q1 := hP0.trans P1
    have hR : R = ([], s) := by rw [HD.out, if_pos h0]
    have HR := Lib.hid hR
    clear hC P1 hP0 hR
    go_wp2
    go_ret2
    exact ⟨.slice none 0 0, by rw [HR.out]; rfl, by rw [HR.out]; exact World.ownsRow_nil _ _ _ _, Q1⟩
  · have Q1 := hP0.trans P1
    have HF := Lib.hid hF
    obtain ⟨hval, hk0, hk30⟩ := HS.out rfl
    obtain ⟨v1, v60, v30, _⟩ := valid_of hval
    obtain ⟨kn, rfl⟩ : ∃ n : Nat, k = n := ⟨k.toNat, by omega⟩
    have hLa := lasts_any D b h w1 hF v30
    clear hC P1 hP0 hF hval
    go_wp2_with fail
    refine hLa.mono ?_
    rintro e w2 ⟨v, rfl, ho, P2⟩
    have hSv := serve_any D _ b h kn (lastsOf h) v w2 (HF.out.pure P2) (owns_ints ho) (lastsOf_len h) v30 v1 v60 (by omega)
    have Q2 := Q1.trans P2
    have hsb := serveOf_bd h kn (lastsOf h) (by rw [lastsOf_len]; exact v30) v60
    have hsl := serveOf_len h kn (lastsOf h)
    rw [lastsOf_len] at hsl hSv
    have hD2 := HD.out
    rw [if_neg (by simp), Int.toNat_natCast] at hD2
    obtain ⟨⟨o, sh⟩, hso⟩ : ∃ p, serveOf h kn (lastsOf h) = p := ⟨_, rfl⟩
    rw [hso] at hSv hsb hsl hD2
    obtain ⟨n, hn⟩ : ∃ n, h.people.length = n := ⟨_, rfl⟩
    rw [hn] at hSv hsl v30
    have HD2 := Lib.hid hD2; have HSL := Lib.hid hsl
    clear hLa ho hD2 hsl hso hn P2
    dsimp only at hsb hSv
    go_wp2_with fail
    refine hSv.mono ?_
    rintro e w3 ⟨v3, rfl, ho, P3⟩
    have Q3 := Q2.trans P3
    obtain ⟨ao, ac, rfl, hle, hmx, hno, hgo⟩ := owns_form ho
    have HO := Lib.hid ho; have HGO := Lib.hid hgo
    clear hSv ho P3 hgo
    by_cases hsh : 0 < sh
    · have hR : R = ([], 23) := by rw [HD2.out, if_pos hsh]
      have HR := Lib.hid hR
      clear hR
      go_wp2
      go_ret2
      exact ⟨.slice none 0 0, by rw [HR.out]; rfl, by rw [HR.out]; exact World.ownsRow_nil _ _ _ _, Q3⟩
    · have hR : R = (o, 0) := by rw [HD2.out, if_neg hsh]
      have HR := Lib.hid hR
      clear hR
      go_wp2_with (first
        | (at_make; refine wpList_make_full _ rfl _ _ 25 rfl w.heap.size 2 i0 (.int .i64 0) 1 Try.underlying25 hi hz0 hz1 .i64 .i64 _ _ n rfl rfl rfl rfl (by rw [hz2]; omega) (by unfold maxLen; omega) Q3.size ?_; intro w4 hown hg)
        | (refine wpList_copy_splice rfl (.tmp 33) (.tmp 34) 25 25 rfl 2 Try.underlying25 info2 (some ⟨w3.heap.size, 0, none⟩) ao n n n ac rfl rfl w3.heap.size 0 _ 2 (owns_full hown).1 (o.map (.int .i64)) ?c1 ?c2 ?c3 ?c4 w.heap.size w ?c5 Q3.size ?_))
      case c1 => have := HO.out.1; simp at this; simp; omega
      case c2 =>
        intro hp
        cases hao : ao with
        | none => have := (hno hao).1; have := HO.out.1; simp at this hp; omega
        | some ad => exact ⟨ad, rfl, fun j x hx => owns_cells (xs := o.map (.int .i64)) (by have h9 := HO.out; rw [hao] at h9; exact h9) (pure_of_grown hg) ad rfl j _ (by simp [hx])⟩
      case c3 =>
        first | rw [made_zeros] | rw [made_zeros1]
        simp; have := HO.out.1; simp at this; omega
      case c4 => intro u hu; obtain ⟨x, _, rfl⟩ := List.mem_map.1 hu; rfl
      case c5 => exact below_of_pure (Q3.trans (pure_of_grown hg)) (Nat.le_refl _)
      intro w5 hh hbl
      have hh2 := hh.out
      rw [splice_all _ _ (by
        first | rw [made_zeros] | rw [made_zeros1]
        simp; have := HO.out.1; simp at this; omega)] at hh2
      have HH := Lib.hid hh2
      clear hh2 hown hg hh
      go_wp2
      go_ret2
      have hol : o.length = n := HSL.out
      exact ⟨_, by rw [HR.out]; rfl, by rw [HR.out]; dsimp only; rw [hol]; exact owns_mk HH.out Q3.size (by simp [hol]) (by unfold maxLen; omega), pure_of_below hbl⟩
end Go.Proofs.Ytbiffhekbnmffaa
