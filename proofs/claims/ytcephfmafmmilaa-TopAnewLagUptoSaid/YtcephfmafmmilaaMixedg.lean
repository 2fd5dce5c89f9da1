/-
  A region that draws its order, with operations that write: what only reads is taken first, in whatever class of worlds; the rest comes in a forced order.
-/
import Derived.Test.YtcephfmafmmilaaMixed
namespace Go.Proofs.Ytcephfmafmmilaa
open Go.RowKit
section
variable {P : Program} {ops : Array Oper} {Q : Exit → Act → World → Prop}
/-- A world of a class. -/
structure InG (G : World → Prop) where
  world : World
  holds : G world
/-- What is left of a region whose operations leave a world of G. -/
abbrev AnyC (P : Program) (ops : Array Oper) (G : World → Prop) (Q : Exit → Act → World → Prop) (f : Nat) (listed : Array Bool) (a : Act) (w : World) : Prop := wpAnyG P .any ops (fun w' => ∃ g : InG G, w' = g.world) Q f listed a w

theorem any_start (G : World → Prop) {id : Nat} {a : Act} {w : World} {l : List Oper} (hm : P.follows .mixedOrders = true)
    (h : AnyC P l.toArray G Q l.length (Array.replicate l.length false) a w.drew) : (Code.region id l.toArray true).wp P Q a w :=
  wp_region_any hm (wpAny_of_G _ _ _ _ (by simpa using h))
theorem any_take {G : World → Prop} (is : List Nat) (hsel : Region.noSelect ops = true) {listed : Array Bool} {a : Act} {w : World} (hg : G w) (hQ : ∀ (d : Option Tmp) (v : Value) c a w, Q (.panic c) (a.put d v) w → Q (.panic c) a w) (f : Nat)
    (hB : takesB .any ops is listed = true) (h : wpQuiet P ops (fun w' => ∃ g : InG G, w' = g.world) (fun a' => AnyC P ops G Q f (is.foldl (fun s i => s.setIfInBounds i true) listed) a' w) (picks ops.toList is) a) :
    AnyC P ops G Q (f + is.length) listed a w := wpAnyG_take is hsel ⟨⟨w, hg⟩, rfl⟩ hQ f hB h
theorem any_force {G : World → Prop} {i : Nat} {o : Oper} {f : Nat} {listed : Array Bool} {a : Act} {w : World} (hr : Region.ready .any ops listed = [i]) (ho : ops[i]? = some o)
    (h : wpList P ops (fun e a' w' => match e with
      | .normal => G w' ∧ AnyC P ops G Q f (listed.setIfInBounds i true) a' w'
      | e => Q e a' w') [o] a w) : AnyC P ops G Q (f + 1) listed a w :=
by
  refine wpAnyG_force hr ho (wpList_exits ?_ ?_ ?_ h)
  · exact fun a' w' h => ⟨fun _ => ⟨⟨w', h.1⟩, rfl⟩, h.2⟩
  · exact fun _ _ _ h => h
  · exact fun h => h
theorem any_done {G : World → Prop} {listed : Array Bool} {a : Act} {w : World} (hr : Region.ready .any ops listed = []) (h : Q .normal a w) : AnyC P ops G Q 0 listed a w := ⟨hr, h⟩
end
end Go.Proofs.Ytcephfmafmmilaa
