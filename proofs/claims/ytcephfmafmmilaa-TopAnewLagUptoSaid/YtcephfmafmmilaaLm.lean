/-
  What the functions of package lag compute, in plain words.
-/
import Derived.Test.YtcephfmafmmilaaOwn
import Derived.Test.YtcephfmafmmilaaArr
import Derived.Test.YtcephfmafmmilaaMaps
import Derived.Test.YtcephfmafmmilaaRegion
import Derived.Test.YtcephfmafmmilaaMixed
import Derived.RangeFuncNested
import Derived.RangeFuncBound
import Derived.RangeFuncCalls
import Derived.RangeFuncLeaves
import Derived.Shelf.Abstract
import Derived.Shelf.RegionOpen
import Derived.WalkKit
import Derived.OwnWalkIn
import Derived.TacticsInMore
import Derived.LoopNIn
import Derived.LoopIn
import Derived.ChangeKeysEq
import Derived.StillTail
namespace Go.Proofs.Ytcephfmafmmilaa
open Go.RowKit

def nAt (l : List Int) (i : Nat) : Int := l[i]?.getD 0
def sortedB : List Int → Bool
  | a :: b :: r => decide (a ≤ b) && sortedB (b :: r)
  | _ => true
def checkCurve (c : List Int) : Int := if withinB 1 6 [(c.length : Int)] = false then 6 else if withinB 0 100 c = false then 3 else if sortedB c = false then 16 else 0
def chainFrom : List (List Int) → Int
  | [] => 0
  | c :: r => if checkCurve c ≠ 0 then checkCurve c else chainFrom r
def checkChain (ch : List (List Int)) : Int := if withinB 1 3 [(ch.length : Int)] = false then 6 else chainFrom ch
/-- The most for 0 turns up to k. -/
def mostStep (c : List Int) (known : List Int) (k : Nat) (out : Int) (p : Nat) : Int :=
  let n := nAt c p + nAt known (k - (p + 1))
  if out < 0 ∨ n < out then n else out
def mostNext (c : List Int) (known : List Int) (k : Nat) : Int := (List.range (min c.length k)).foldl (mostStep c known k) (-1)
def mosts (c : List Int) : Nat → List Int
  | 0 => [0]
  | k + 1 => mosts c k ++ [mostNext c (mosts c k) (k + 1)]
def mostOf (c : List Int) (k : Nat) : Int := nAt (mosts c k) k
def least1 (c : List Int) (k : Nat) : Int := ((k / c.length : Nat) : Int) * nAt c (c.length - 1) + (if 0 < k % c.length then nAt c (k % c.length - 1) else 0)
def smallTo (f : Nat → Int) : Nat → Int
  | 0 => f 0
  | n + 1 => min (smallTo f n) (f (n + 1))
def nextOf (out c : List Int) (turns : Nat) : List Int := (List.range (turns + 1)).map fun k => smallTo (fun p => nAt out (k - p) + least1 c p) k
def leasts (ch : List (List Int)) (turns : Nat) : List Int := (ch.drop 1).foldl (fun out c => nextOf out c turns) ((List.range (turns + 1)).map (least1 ((ch[0]?).getD [])))
def bestTo (f : Nat → Int) (n : Nat) : Int := max 0 (-(smallTo (fun k => -(f k)) n))
def ratioOf (num den : Int) : Int × Int := (num / (Int.gcd num den : Nat), den / (Int.gcd num den : Nat))
def greaterB (a b : Int × Int) : Bool := decide (b.1 * a.2 < a.1 * b.2)
def rateStep (c : List Int) (comes : Bool) (out : Int × Int) (i : Nat) : Int × Int := if comes && greaterB out (ratioOf (nAt c i) ((i : Int) + 1)) then ratioOf (nAt c i) ((i : Int) + 1) else out
def rateOf (c : List Int) (comes : Bool) : Int × Int := (List.range c.length).foldl (rateStep c comes) (ratioOf (nAt c (c.length - 1)) c.length)
def checkRow (r : List Int) : Int := if 60 < r.length then 6 else if withinB 0 10000 r = false then 3 else 0
def sumTo (r : List Int) (k : Nat) : Int := (r.take k).sum
def sumsOf (r : List Int) : List Int := (List.range (r.length + 1)).map (sumTo r)
def stepsOf (s : List Int) : List Int := (List.range (s.length - 1)).map fun t => nAt s (t + 1) - nAt s t
def mostR (c : List Int) (turns : Int) : Int × Int := if checkCurve c ≠ 0 then (0, checkCurve c) else if withinB 0 200 [turns] = false then (0, 3) else (mostOf c turns.toNat, 0)
def leastR (ch : List (List Int)) (turns : Int) : Int × Int := if checkChain ch ≠ 0 then (0, checkChain ch) else if withinB 0 200 [turns] = false then (0, 3) else (nAt (leasts ch turns.toNat) turns.toNat, 0)
def rateR (c : List Int) (comes : Bool) : Int × Int × Int := if checkCurve c ≠ 0 then (0, 0, checkCurve c) else ((rateOf c comes).1, (rateOf c comes).2, 0)
/-- The first place behind which a row breaks a curve: from t on, of k turns or more. -/
def breakAt (c a : List Int) (t : Nat) : Nat → Nat → Option (Nat × Nat)
  | 0, _ => none
  | f + 1, k => if t + k < a.length then (if mostOf c k < nAt a (t + k) - nAt a t then some (t, k) else breakAt c a t f (k + 1)) else none
def breakFrom (c a : List Int) : Nat → Nat → Option (Nat × Nat)
  | 0, _ => none
  | f + 1, t => match breakAt c a t 61 1 with
    | some x => some x
    | none => breakFrom c a f (t + 1)
def breakR (c came : List Int) : Int × Int × Int := if checkCurve c ≠ 0 then (0, 0, checkCurve c) else if checkRow came ≠ 0 then (0, 0, checkRow came) else
  match breakFrom c (sumsOf came) came.length 0 with
  | none => (0, 0, 5)
  | some (t, k) => (t, k, 0)
def cameR (c : List Int) (turns : Int) : List Int × Int := if checkCurve c ≠ 0 then ([], checkCurve c) else if withinB 0 60 [turns] = false then ([], 3) else (stepsOf (mosts c turns.toNat), 0)
def pairE (came added : List Int) : Int := if checkRow came ≠ 0 then checkRow came else if checkRow added ≠ 0 then checkRow added else if came.length ≠ added.length then 15
  else if (List.range (came.length + 1)).any (fun t => decide (sumTo came t < sumTo added t)) then 14 else 0
def lazyAt (c a : List Int) (t : Nat) : Int := (List.range t).foldl (fun n u => min n (nAt a u + least1 c (t - u))) (nAt a t)
def lazyOf (c a : List Int) : List Int := (List.range a.length).map (lazyAt c a)
def checkAddedR (c came added : List Int) : Int := if checkCurve c ≠ 0 then checkCurve c else if pairE came added ≠ 0 then pairE came added
  else if (List.range (came.length + 1)).any (fun t => decide (sumTo added t < lazyAt c (sumsOf came) t)) then 18 else 0
def addedR (c came : List Int) : List Int × Int := if checkCurve c ≠ 0 then ([], checkCurve c) else if checkRow came ≠ 0 then ([], checkRow came) else (stepsOf (lazyOf c (sumsOf came)), 0)
def atFrom (d : List Int) (x : Int) (t : Nat) : Nat → Nat → Nat
  | 0, at' => at'
  | f + 1, at' => if at' < t ∨ nAt d at' < x then atFrom d x t f (at' + 1) else at'
def seenStep (a d : List Int) (s : Int × Int × Nat) (t : Nat) : Int × Int × Nat :=
  let at' := atFrom d (nAt a t) t 61 s.2.2
  (max s.1 (nAt a t - nAt d t), max s.2.1 ((at' : Int) - t), at')
def seenR (came added : List Int) : Int × Int × Int := if pairE came added ≠ 0 then (0, 0, pairE came added) else if sumTo came came.length ≠ sumTo added came.length then (0, 0, 18)
  else let s := (List.range (came.length + 1)).foldl (seenStep (sumsOf came) (sumsOf added)) (0, 0, 0); (s.1, s.2.1, 0)
def openE (c : List Int) (ch : List (List Int)) : Int := if checkCurve c ≠ 0 then checkCurve c else if checkChain ch ≠ 0 then checkChain ch else if ch.any (fun x => greaterB (rateOf c true) (rateOf x false)) then 18 else 0
def waitR (c : List Int) (ch : List (List Int)) : Int × Int := if openE c ch ≠ 0 then (0, openE c ch) else (bestTo (fun k => mostOf c k - nAt (leasts ch 360) k) 180, 0)
def lateAt (c l : List Int) (k : Nat) : Nat → Nat → Nat
  | 0, at' => at'
  | f + 1, at' => if at' + 1 < l.length ∧ nAt l at' < mostOf c k then lateAt c l k f (at' + 1) else at'
def lateR (c : List Int) (ch : List (List Int)) : Int × Int := if openE c ch ≠ 0 then (0, openE c ch) else (bestTo (fun k => (lateAt c (leasts ch 360) k 361 k : Int) - k) 180, 0)
def behindR (c : List Int) (ch : List (List Int)) : List Int × Int := if openE c ch ≠ 0 then ([], openE c ch) else ((List.range c.length).map fun i => bestTo (fun u => mostOf c (i + 1 + u) - nAt (leasts ch 360) u) 180, 0)

def cA : List Int := [3, 4, 4]
def cB : List Int := [0, 2, 4]
def rR : List Int := [3, 1, 0, 3, 1, 0]
theorem z1 : mostR cA 7 = (11, 0) := by decide +kernel
theorem z2 : leastR [cB, cB] 5 = (4, 0) := by decide +kernel
theorem z3 : rateR cA true = (4, 3, 0) := by decide +kernel
theorem z4 : breakR cA rR = (0, 0, 5) := by decide +kernel
theorem z5 : breakR cA [3, 1, 1, 0] = (0, 3, 0) := by decide +kernel
theorem z6 : cameR cA 6 = (rR, 0) := by decide +kernel
theorem z7 : addedR cB rR = ([0, 2, 2, 0, 2, 2], 0) := by decide +kernel
theorem z8 : checkAddedR cB rR [0, 1, 3, 0, 2, 2] = 18 := by decide +kernel
theorem z9 : seenR rR [0, 2, 2, 0, 2, 2] = (3, 2, 0) := by decide +kernel
theorem z12 : (waitR [3, 4, 5] [cB]).2 = 18 := by decide +kernel
end Go.Proofs.Ytcephfmafmmilaa
