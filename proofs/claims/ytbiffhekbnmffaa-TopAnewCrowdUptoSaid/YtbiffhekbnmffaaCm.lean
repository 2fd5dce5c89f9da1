/-
  What the functions of package crowd compute, in plain words.
-/
import Derived.Test.YtbiffhekbnmffaaOwn
import Derived.Test.YtbiffhekbnmffaaMaps
import Derived.Test.YtbiffhekbnmffaaRegion
import Derived.Test.YtbiffhekbnmffaaMixed
import Derived.RangeFuncNested
import Derived.RangeFuncBound
import Derived.RangeFuncCalls
import Derived.RangeFuncLeaves
import Derived.Shelf.Abstract
import Derived.Shelf.RegionOpen
import Derived.WalkKit
import Derived.OwnWalkIn
import Derived.TacticsInMore
import Derived.LoopNIn
import Derived.LoopIn
import Derived.ChangeKeysEq
import Derived.StillTail
namespace Go.Proofs.Ytbiffhekbnmffaa
open Go.RowKit

structure Person where
  lo : Int
  hi : Int
  til : Int
structure Hall where
  minutes : Int
  people : List Person
def oddP (m : Int) (p : Person) : Bool := decide (p.hi < p.lo) || !withinB 1 m [p.lo, p.hi, p.til]
def checkHall (h : Hall) : Int := if withinB 1 60 [h.minutes] = false then 3 else if 30 < h.people.length then 6 else if h.people.any (oddP h.minutes) then 2 else 0
def staffedE (h : Hall) (k : Int) : Int := if checkHall h ≠ 0 then checkHall h else if withinB 0 30 [k] = false then 6 else 0
def windowP (p : Person) : Int × Int := if p.til < p.lo then (0, 0) else (min p.hi p.til, p.til)
def pAt (l : List Person) (i : Nat) : Person := l[i]?.getD ⟨0, 0, 0⟩
def planOk (h : Hall) (plan : List Int) (i : Nat) : Bool := withinB (windowP (pAt h.people i)).1 (windowP (pAt h.people i)).2 [plan[i]?.getD 0]
def cntStep (c : List Int) (n : Int) : List Int := c.set n.toNat (wrap64 (c[n.toNat]?.getD 0 + 1))
def cntOf (plan : List Int) : List Int := plan.foldl cntStep (List.replicate 61 0)
def maxOf (l : List Int) : Int := l.tail.foldl max (l[0]?.getD 0)
def checkPlan (h : Hall) (k : Int) (plan : List Int) : Int :=
  if staffedE h k ≠ 0 then staffedE h k else if plan.length ≠ h.people.length then 15 else if (List.range h.people.length).all (planOk h plan) = false then 16
  else if (cntOf plan).set 0 0 = List.replicate 61 0 ∨ maxOf ((cntOf plan).set 0 0) ≤ k then 0 else 23
def lastP (p : Person) : Int := if (windowP p).2 = 0 then p.lo else (windowP p).1
def lastsOf (h : Hall) : List Int := h.people.map lastP
def fallsP (s : Int × Int) (p : Person) : Bool := decide (0 < (windowP p).2) && (decide (s.1 ≤ (windowP p).1) && decide ((windowP p).2 ≤ s.2))
def fallsOf (l : List Person) (s : Int × Int) : Int := (l.countP (fallsP s) : Nat)
def longOf (s : Int × Int) : Int := s.2 - s.1 + 1
def boundOf (l : List Person) (s : Int × Int) : Int := (fallsOf l s + longOf s - 1) / longOf s
def spansOf (m : Nat) : List (Int × Int) := (List.range m).flatMap fun (a : Nat) => (List.range (m - a)).map fun (d : Nat) => ((a : Int) + 1, (a : Int) + 1 + (d : Int))
def crowdStep (l : List Person) (b : (Int × Int) × Int) (s : Int × Int) : (Int × Int) × Int := if b.2 < boundOf l s then (s, boundOf l s) else b
def crowdTo (l : List Person) (ss : List (Int × Int)) : (Int × Int) × Int := ss.foldl (crowdStep l) ((0, 0), 0)
def tilAt (l : List Person) (i : Nat) : Int := (pAt l i).til
def arrive (l : List Person) (come : List Int) (m : Int) (W : List Nat) : List Nat := (List.range come.length).filter fun i => W.contains i || (decide (come[i]?.getD 0 = m) && decide (m ≤ tilAt l i))
def lessP (l : List Person) (i j : Nat) : Bool := decide (tilAt l i < tilAt l j) || (decide (tilAt l i = tilAt l j) && decide (i < j))
def bestP (l : List Person) (W : List Nat) : Nat := W.foldl (fun b i => if lessP l i b then i else b) (W.headD 0)
def takeStep (l : List Person) (m : Int) (s : List Int × List Nat) : List Int × List Nat := if s.2 = [] then s else (s.1.set (bestP l s.2) m, s.2.filter (fun i => decide (i ≠ bestP l s.2)))
def takeK (l : List Person) (m : Int) (s : List Int × List Nat) : Nat → List Int × List Nat
  | 0 => s
  | k + 1 => takeStep l m (takeK l m s k)
def minuteStep (l : List Person) (k : Nat) (come : List Int) (m : Int) (s : List Int × Int × List Nat) : List Int × Int × List Nat :=
  let t := takeK l m (s.1, arrive l come m s.2.2) k
  (t.1, s.2.1 + ((t.2.filter fun i => decide (tilAt l i = m)).length : Nat), t.2.filter fun i => decide (tilAt l i ≠ m))
def serveTo (l : List Person) (k : Nat) (come : List Int) : Nat → List Int × Int × List Nat
  | 0 => (List.replicate come.length 0, 0, [])
  | m + 1 => minuteStep l k come ((m : Int) + 1) (serveTo l k come m)
def serveOf (h : Hall) (k : Nat) (come : List Int) : List Int × Int := ((serveTo h.people k come h.minutes.toNat).1, (serveTo h.people k come h.minutes.toNat).2.1)
def fewestFrom (h : Hall) (come : List Int) : Nat → Nat → Int
  | 0, _ => 30
  | f + 1, k => if (serveOf h k come).2 = 0 then k else fewestFrom h come f (k + 1)
def fewestOf (h : Hall) (come : List Int) : Int := fewestFrom h come 30 0
def planR (h : Hall) (k : Int) : List Int × Int := if staffedE h k ≠ 0 then ([], staffedE h k) else if 0 < (serveOf h k.toNat (lastsOf h)).2 then ([], 23) else ((serveOf h k.toNat (lastsOf h)).1, 0)
def machinesR (h : Hall) : Int × Int × Int := if checkHall h ≠ 0 then (0, 0, checkHall h) else (fewestOf h (h.people.map (·.lo)), fewestOf h (lastsOf h), 0)
def boundR (h : Hall) (a b : Int) : Int × Int := if checkHall h ≠ 0 then (0, checkHall h) else if b < a ∨ withinB 1 h.minutes [a, b] = false then (0, 3) else (boundOf h.people (a, b), 0)
def crowdR (h : Hall) : Int × Int × Int := if checkHall h ≠ 0 then (0, 0, checkHall h) else
  let b := (crowdTo h.people (spansOf h.minutes.toNat)).1
  if b = (0, 0) then (0, 0, 16) else (b.1, b.2, 0)
def serveR (h : Hall) (k : Int) (truth : List Int) : List Int × Int × Int :=
  if staffedE h k ≠ 0 then ([], 0, staffedE h k) else if truth.length ≠ h.people.length then ([], 0, 15)
  else if (List.range h.people.length).all (fun i => withinB (pAt h.people i).lo (pAt h.people i).hi [truth[i]?.getD 0]) = false then ([], 0, 3)
  else ((serveOf h k.toNat truth).1, (serveOf h k.toNat truth).2, 0)
def fitsOf (h : Hall) (k : Nat) (come : List Int) : Bool := decide ((serveOf h k come).2 = 0)
def lateFrom (h : Hall) (k person : Nat) (til : Int) : Nat → Int → List Int → Int
  | 0, last, _ => last
  | f + 1, last, come => if last < til then
      (if fitsOf h k (come.set person (wrap64 (come[person]?.getD 0 + 1))) then lateFrom h k person til f (last + 1) (come.set person (wrap64 (come[person]?.getD 0 + 1))) else last) else last
def lateR (h : Hall) (k person : Int) : Int × Int :=
  if staffedE h k ≠ 0 then (0, staffedE h k) else if person < 0 ∨ (h.people.length : Int) ≤ person then (0, 2)
  else if (windowP (pAt h.people person.toNat)).2 = 0 then (0, 16)
  else if fitsOf h k.toNat (lastsOf h) = false then (0, 23)
  else (lateFrom h k.toNat person.toNat (windowP (pAt h.people person.toNat)).2 60 (windowP (pAt h.people person.toNat)).1 (lastsOf h), 0)
def roomStep (h : Hall) (k minute : Int) (r : Option Int) (s : Int × Int) : Option Int :=
  match r with
  | none => none
  | some room => if k * longOf s - fallsOf h.people s < 0 then none else if withinB s.1 s.2 [minute] then some (min room (k * longOf s - fallsOf h.people s)) else some room
def roomTo (h : Hall) (k minute : Int) (ss : List (Int × Int)) : Option Int := ss.foldl (roomStep h k minute) (some k)
def roomR (h : Hall) (k minute : Int) : Int × Int :=
  if staffedE h k ≠ 0 then (0, staffedE h k) else if withinB 1 h.minutes [minute] = false then (0, 3)
  else match roomTo h k minute (spansOf h.minutes.toNat) with
    | none => (0, 23)
    | some r => (r, 0)

end Go.Proofs.Ytbiffhekbnmffaa
