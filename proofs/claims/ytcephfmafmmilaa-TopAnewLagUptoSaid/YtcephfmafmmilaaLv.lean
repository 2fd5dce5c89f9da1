/-
  The frame and the world between two rounds of most.
-/
import Derived.Test.YtcephfmafmmilaaLu
import Derived.Deep.CutRange
import Derived.Deep.DeepCutAuto
namespace Go.Proofs.Ytcephfmafmmilaa
open Go.RowKit Go.Shelf
attribute [local go_sem] Oper.semAt_some

def topOf (b : Nat) (W : World) : Nat := match W.cell? ⟨b, 9, none⟩ with
  | some (.int _ n) => n.toNat
  | _ => 0
theorem topOf_row {c : List Int} {sv : Value} {b mb top : Nat} {f0 f1 f2 f3 f4 f5 f6 : Int} {W : World} (h : Board c sv b mb top f0 f1 f2 f3 f4 f5 f6 W) : topOf b W = top := by
  have : W.cell? ⟨b, 9, none⟩ = some (.int .i64 top) := cell_of_row _ _ 9 _ _ _ h.row
  unfold topOf; rw [this]; simp
/-- The frame and the world between two rounds of most. -/
inductive MostI (c : List Int) (sv : Value) (b mb : Nat) (f0 f1 f2 f3 f4 f5 f6 : Int) (t B2 : Nat) (w : World) : Act → World → Prop where
  | mk {x3 x5 x6 x7 x8 x9 x10 x11 x12 x13 x14 x15 x16 x17 x18 x19 x20 x21 x22 x23 x24 x25 x26 x27 x28 x29 x30 x31 x32 x33 x34 x35 x36 x37 x38 x39 x40 x41 x42 x43 x44 x45 x46 x47 x48 x49 x50 x51 x52 x53 x54 x55 x56 x57 x58 x59 x60 x61 x62 x63 x64 x65 x66 x67 x68 x69 x70 x71 x72 x73 x74 x75 x76 x77 x78 x79 x80 x81 x82 x83 x84 x85 x86 x87 x88 x89 x90 x91 x92 x93 x94 x95 x96 x97 x98 x99 x100 x101 x102 x103 x104 x105 x106 x107 x108 x109 x110 x111 x112 x113 x114 x115 x116 x117 x118 x119 x120 x121 x122 : Value} {Ds : List Nat} {tp : Nat} {W : World} (htp : tp ≤ 1000) (htp6 : tp ≤ t + 6) (board : Board c sv b mb tp f0 f1 f2 f3 f4 f5 f6 W) (box : W.heap[B2]? = some (.cells #[.pointer (some ⟨b, 0, none⟩)] 67)) (marked : Marked (w.heap.size + 1) Ds W) (only : Only (fun k => k = b ∨ k = mb) w W) :
    MostI c sv b mb f0 f1 f2 f3 f4 f5 f6 t B2 w { tmps := #[.pointer (some ⟨b, 0, none⟩), .int .i64 t, .pointer (some ⟨B2, 0, none⟩), x3, .int .i64 0, x5, x6, x7, x8, x9, x10, x11, x12, x13, x14, x15, x16, x17, x18, x19, x20, x21, x22, x23, x24, x25, x26, x27, x28, x29, x30, x31, x32, x33, x34, x35, x36, x37, x38, x39, x40, x41, x42, x43, x44, x45, x46, x47, x48, x49, x50, x51, x52, x53, x54, x55, x56, x57, x58, x59, x60, x61, x62, x63, x64, x65, x66, x67, x68, x69, x70, x71, x72, x73, x74, x75, x76, x77, x78, x79, x80, x81, x82, x83, x84, x85, x86, x87, x88, x89, x90, x91, x92, x93, x94, x95, x96, x97, x98, x99, x100, x101, x102, x103, x104, x105, x106, x107, x108, x109, x110, x111, x112, x113, x114, x115, x116, x117, x118, x119, x120, x121, x122], defers := marks Ds } W
theorem MostI.elim {c : List Int} {sv : Value} {b mb : Nat} {f0 f1 f2 f3 f4 f5 f6 : Int} {t B2 : Nat} {w : World} {a : Act} {W : World} (h : MostI c sv b mb f0 f1 f2 f3 f4 f5 f6 t B2 w a W) {motive : Act → Prop}
    (k : ∀ (x3 x5 x6 x7 x8 x9 x10 x11 x12 x13 x14 x15 x16 x17 x18 x19 x20 x21 x22 x23 x24 x25 x26 x27 x28 x29 x30 x31 x32 x33 x34 x35 x36 x37 x38 x39 x40 x41 x42 x43 x44 x45 x46 x47 x48 x49 x50 x51 x52 x53 x54 x55 x56 x57 x58 x59 x60 x61 x62 x63 x64 x65 x66 x67 x68 x69 x70 x71 x72 x73 x74 x75 x76 x77 x78 x79 x80 x81 x82 x83 x84 x85 x86 x87 x88 x89 x90 x91 x92 x93 x94 x95 x96 x97 x98 x99 x100 x101 x102 x103 x104 x105 x106 x107 x108 x109 x110 x111 x112 x113 x114 x115 x116 x117 x118 x119 x120 x121 x122 : Value) (Ds : List Nat) (tp : Nat), tp ≤ 1000 → tp ≤ t + 6 → Board c sv b mb tp f0 f1 f2 f3 f4 f5 f6 W → W.heap[B2]? = some (.cells #[.pointer (some ⟨b, 0, none⟩)] 67) → Marked (w.heap.size + 1) Ds W → Only (fun k => k = b ∨ k = mb) w W →
      motive { tmps := #[.pointer (some ⟨b, 0, none⟩), .int .i64 t, .pointer (some ⟨B2, 0, none⟩), x3, .int .i64 0, x5, x6, x7, x8, x9, x10, x11, x12, x13, x14, x15, x16, x17, x18, x19, x20, x21, x22, x23, x24, x25, x26, x27, x28, x29, x30, x31, x32, x33, x34, x35, x36, x37, x38, x39, x40, x41, x42, x43, x44, x45, x46, x47, x48, x49, x50, x51, x52, x53, x54, x55, x56, x57, x58, x59, x60, x61, x62, x63, x64, x65, x66, x67, x68, x69, x70, x71, x72, x73, x74, x75, x76, x77, x78, x79, x80, x81, x82, x83, x84, x85, x86, x87, x88, x89, x90, x91, x92, x93, x94, x95, x96, x97, x98, x99, x100, x101, x102, x103, x104, x105, x106, x107, x108, x109, x110, x111, x112, x113, x114, x115, x116, x117, x118, x119, x120, x121, x122], defers := marks Ds }) : motive a := by
  cases h
  apply k <;> assumption

/-- What a round of the range keeps. -/
structure Inner (c : List Int) (sv : Value) (b mb : Nat) (f0 f1 f2 f3 f4 f5 f6 : Int) (tp B2 Bo base : Nat) (Ds : List Nat) (w : World) (pre : List (Int × Int)) (W : World) : Prop where
  row : W.heap[b]? = some (.cells #[sv, .map (some mb), .int .i64 f0, .int .i64 f1, .int .i64 f2, .int .i64 f3, .int .i64 f4, .int .i64 f5, .int .i64 f6, .int .i64 ((tp : Int) + 1)] 100)
  map : MapF keyV W mb (knownF c tp)
  box : W.heap[B2]? = some (.cells #[.pointer (some ⟨b, 0, none⟩)] 67)
  out : W.heap[Bo]? = some (.cells #[.int .i64 (outTo c tp pre)] 2)
  marks : Marked base Ds W
  only : Only (fun k => k = b ∨ k = mb) w W
theorem Inner.near {c : List Int} {sv : Value} {b mb : Nat} {f0 f1 f2 f3 f4 f5 f6 : Int} {tp B2 Bo base B : Nat} {Ds : List Nat} {w : World} (hw : w.heap.size ≤ B) (hm : mb < B) (hD : ∀ D, D ∈ Ds → D < B) (pre : List (Int × Int)) (W W' : World) (hn : Near B W W') (h : Inner c sv b mb f0 f1 f2 f3 f4 f5 f6 tp B2 Bo base Ds w pre W) :
    Inner c sv b mb f0 f1 f2 f3 f4 f5 f6 tp B2 Bo base Ds w pre W' :=
  ⟨hn.row h.row, hn.map h.map hm, hn.row h.box, hn.row h.out, ⟨h.marks.nodup, fun D hd => ⟨(h.marks.at_ D hd).1, (hn.low D (hD D hd) (h.marks.lt D hd)).trans (h.marks.at_ D hd).2⟩⟩, hn.only h.only hw⟩
theorem Inner.step {c : List Int} {sv : Value} {b mb : Nat} {f0 f1 f2 f3 f4 f5 f6 : Int} {tp B2 Bo base : Nat} {Ds : List Nat} {w : World} {pre pre' : List (Int × Int)} {W W' : World} (h : Inner c sv b mb f0 f1 f2 f3 f4 f5 f6 tp B2 Bo base Ds w pre W) (hp : Pure W W') (e : outTo c tp pre' = outTo c tp pre) :
    Inner c sv b mb f0 f1 f2 f3 f4 f5 f6 tp B2 Bo base Ds w pre' W' :=
  ⟨hp.heap h.row (fun f => f), h.map.keep hp (fun f => f), hp.heap h.box (fun f => f), by rw [e]; exact hp.heap h.out (fun f => f), h.marks.only hp (fun _ _ f => f), h.only.trans (hp.mono (fun _ _ f => f.elim))⟩
theorem Inner.set {c : List Int} {sv : Value} {b mb : Nat} {f0 f1 f2 f3 f4 f5 f6 : Int} {tp B2 Bo base : Nat} {Ds : List Nat} {w : World} {pre pre' : List (Int × Int)} {W W' : World} (h : Inner c sv b mb f0 f1 f2 f3 f4 f5 f6 tp B2 Bo base Ds w pre W) (hp : Pure W W') (v : Int) (e : outTo c tp pre' = v) (hb : b ≠ Bo) (h2 : B2 ≠ Bo) (hw : w.heap.size ≤ Bo) :
    Inner c sv b mb f0 f1 f2 f3 f4 f5 f6 tp B2 Bo base Ds w pre' (W'.setCell ⟨Bo, 0, none⟩ (.int .i64 v)) := by
  have h' := h.step (pre' := pre) hp rfl
  have ho := (Only.refl (fun k => k = Bo) W').setCell (p := ⟨Bo, 0, none⟩) (.inl rfl) (.int .i64 v)
  have hne : ∀ {k : Nat} {o : Obj}, W'.heap[k]? = some o → o.isCells = false → ¬ k = Bo := fun hk hc e => by subst e; rw [h'.out] at hk; cases hk; cases hc
  refine ⟨ho.heap h'.row hb, ?_, ho.heap h'.box h2, by rw [e]; exact heap_setCell_same _ _ 0 _ _ _ h'.out, ?_, h'.only.setCell (.inr hw) _⟩
  · obtain ⟨E, c', hm, hf⟩ := h'.map
    exact MapF.keep ⟨E, c', hm, hf⟩ ho (hne hm.heap rfl)
  · exact h'.marks.only ho (fun D hD => hne (h'.marks.at_ D hD).2 rfl)
end Go.Proofs.Ytcephfmafmmilaa
