/-
  best.
-/
import Derived.Test.YtcephfmafmmilaaLl
namespace Go.Proofs.Ytcephfmafmmilaa
open Go.RowKit Go.Shelf

theorem smallTo_bd {f : Nat → Int} {n : Nat} (h : ∀ k, k ≤ n → -1000000 ≤ f k ∧ f k ≤ 1000000) : ∀ k, k ≤ n → -1000000 ≤ smallTo f k ∧ smallTo f k ≤ 1000000
  | 0, hk => h 0 hk
  | k + 1, hk => by have a := smallTo_bd h k (by omega); have b := h (k + 1) hk; unfold smallTo; omega

theorem negs_any (g : Nat) (lb : Array Value) (f : Nat → Int) (n : Nat) (I : World → Prop) (S : Nat → Prop) (B : Nat) (hE : ∀ args w, (callFunc g args).run Try.prog w = .ok (.enter g args) w)
    (hO : ∀ (k : Nat) (w : World), k ≤ n → I w → Calls Try.prog g (#[.int .i64 k] ++ lb) w fun e w' => e = .returned (.int .i64 (f k)) ∧ I w' ∧ Only S w w') (hB : ¬ S B) (hf : ∀ k, k ≤ n → -1000000 ≤ f k ∧ f k ≤ 1000000) :
    Of 79 #[.pointer (some ⟨B, 0, none⟩)] (fun k => -(f k)) n (fun W => I W ∧ W.cell? ⟨B, 0, none⟩ = some (.func (.func g) #[] lb)) := by
  intro k w hk hI
  obtain ⟨hI, hc⟩ := hI
  have h := hO k w hk hI
  have hfk := hf k hk
  show Calls Try.prog 79 #[.int .i64 k, .pointer (some ⟨B, 0, none⟩)] w _
  obtain ⟨x, hx⟩ : ∃ x, f k = x := ⟨_, rfl⟩
  simp only [hx] at h hfk ⊢
  clear hO hf hI hx
  go_enter Try.func79, Try.ntmps79
  go_wp2_with fail
  refine h.mono ?_
  rintro e w1 ⟨rfl, hI1, hP⟩
  have HI := Lib.hid hI1; have HP := Lib.hid (hP.cell hc hB)
  clear h hI1 hP
  go_wp2
  go_ret
  exact ⟨rfl, HI.out, HP.out⟩

set_option maxHeartbeats 1000000 in
theorem best_any (g : Nat) (lb : Array Value) (f : Nat → Int) (n : Nat) (I : World → Prop) (S : Nat → Prop) (w : World) (hE : ∀ args w, (callFunc g args).run Try.prog w = .ok (.enter g args) w)
    (hO : ∀ (k : Nat) (w : World), k ≤ n → I w → Calls Try.prog g (#[.int .i64 k] ++ lb) w fun e w' => e = .returned (.int .i64 (f k)) ∧ I w' ∧ Only S w w') (hB : ¬ S w.heap.size) (hf : ∀ k, k ≤ n → -1000000 ≤ f k ∧ f k ≤ 1000000)
    (hI : I (w.alloc (.cells #[.func (.func g) #[] lb] 69))) (hn : n ≤ 1000) :
    Calls Try.prog 60 #[.int .i64 n, .func (.func g) #[] lb] w fun e w' => e = .returned (.int .i64 (bestTo f n)) ∧ I w' := by
  have hb := World.alloc_heap_new w (.cells #[.func (.func g) #[] lb] 69)
  have hs := smallest_any 79 _ _ n _ _ (enters_of Try.func79 (by kernel_rfl) rfl) (negs_any g lb f n I S w.heap.size hE hO hB hf) ⟨hI, cell_of_row _ _ _ _ _ _ hb⟩ hn
  have hbd := smallTo_bd (f := fun k => -(f k)) (n := n) (fun k hk => by have := hf k hk; omega) n (Nat.le_refl _)
  have hdef : bestTo f n = max 0 (-(smallTo (fun k => -(f k)) n)) := rfl
  obtain ⟨x, hx⟩ : ∃ x, smallTo (fun k => -(f k)) n = x := ⟨_, rfl⟩
  obtain ⟨R, hR⟩ : ∃ R, bestTo f n = R := ⟨_, rfl⟩
  rw [hx] at hs hbd hdef
  rw [hR] at hdef ⊢
  have HD := Lib.hid hdef
  clear hE hO hB hf hI hb hx hR hdef
  go_enter Try.func60, Try.ntmps60
  go_wp2_with fail
  refine hs.mono ?_
  rintro e w1 ⟨rfl, hI1, _⟩
  have HI := Lib.hid hI1
  clear hs hI1
  by_cases h0 : 0 < -x
  · have HX := Lib.hid (show R = -x from by rw [HD.out]; omega)
    go_wp2
    go_ret
    exact ⟨by rw [HX.out]; rfl, HI.out⟩
  · have HX := Lib.hid (show R = 0 from by rw [HD.out]; omega)
    go_wp2
    go_ret
    exact ⟨by rw [HX.out]; rfl, HI.out⟩
end Go.Proofs.Ytcephfmafmmilaa
