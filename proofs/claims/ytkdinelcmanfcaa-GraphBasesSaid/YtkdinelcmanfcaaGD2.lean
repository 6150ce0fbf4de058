/-
  Chapter 12 (graph): what the rest of graph computes, in plain Lean, step by step as the code does; what is known of each as a callee.
-/
import Derived.Test.YtkdinelcmanfcaaGP4
set_option linter.unusedSimpArgs false
set_option linter.unusedVariables false
namespace Go.Proofs.Ytkdinelcmanfcaa
open Go Go.Ev

def smallB (l : List Cm) : Bool := l.all fun c => decide (c.1.length ≤ 4294967296)
def right (l : List Cm) : Bool := (checkG l).2 == 0
def hasG (l : List Cm) (some : List Int) : Bool := right l && !some.any (noNum l.length)
def marks0 : List Int := List.replicate 501 0
def orAll (bit : Int) : List Int → List Int → List Int
  | [], ms => ms
  | p :: ps, ms => orAll bit ps (ms.set p.toNat (Go.bits .or .i64 (ms.getD p.toNat 0) bit))
def reachFrom (l : List Cm) (bit : Int) : Nat → List Int → List Int
  | 0, ms => ms
  | i + 1, ms => reachFrom l bit i (if Go.bits .and .i64 (ms.getD (i + 1) 0) bit = 0 then ms else orAll bit (l.getD i ([], 0)).1 ms)
def reachG (l : List Cm) (n bit : Int) (ms : List Int) : List Int := reachFrom l bit n.toNat (ms.set n.toNat (Go.bits .or .i64 (ms.getD n.toNat 0) bit))
def listG (v : Int) (ms : List Int) : List Int := ((List.range 501).filter fun i => ms.getD i 0 == v).map Int.ofNat
def reachL (l : List Cm) (n : Int) : List Int := if hasG l [n] then listG 1 (reachG l n 1 marks0) else []
def beforeG (l : List Cm) (a b : Int) : Bool := if hasG l [a, b] then (reachG l b 1 marks0).getD a.toNat 0 == 1 else false
def genIn (i : Nat) : List Int → List Int → List Int
  | [], gs => gs
  | p :: ps, gs => genIn i ps (gs.set (i + 1) (if gs.getD (i + 1) 0 < gs.getD p.toNat 0 + 1 then gs.getD p.toNat 0 + 1 else gs.getD (i + 1) 0))
def genOut : List Cm → Nat → List Int → List Int
  | [], _, gs => gs
  | c :: r, i, gs => genOut r (i + 1) (genIn i c.1 (gs.set (i + 1) 1))
def genG (l : List Cm) (n : Int) : Int := if hasG l [n] then (genOut (l.take n.toNat) 0 marks0).getD n.toNat 0 else 0
def basesFrom (l : List Cm) : Nat → List Int → List Int → List Int
  | 0, _, out => out
  | n + 1, ms, out =>
    if Go.bits .and .i64 (ms.getD (n + 1) 0) 3 = 3 then
      basesFrom l n (orAll 4 (l.getD n ([], 0)).1 ms) (if Go.bits .and .i64 (ms.getD (n + 1) 0) 4 = 0 then out ++ [((n + 1 : Nat) : Int)] else out)
    else basesFrom l n ms out
def basesG (l : List Cm) (a b : Int) : List Int := if hasG l [a, b] then (basesFrom l (if a < b then a else b).toNat (reachG l b 2 (reachG l a 1 marks0)) []).reverse else []
def firstFrom (l : List Cm) : Nat → List Int → List Int
  | 0, _ => []
  | _ + 1, [] => []
  | k + 1, p :: _ => p :: firstFrom l k (l.getD (p - 1).toNat ([], 0)).1
def firstG (l : List Cm) (n : Int) : List Int := if hasG l [n] then n :: firstFrom l n.toNat (l.getD (n - 1).toNat ([], 0)).1 else []
def asOfIn (l : List Cm) (t : Int) : List Int → Int
  | [] => 0
  | x :: r => if (l.getD (x - 1).toNat ([], 0)).2 ≤ t then x else asOfIn l t r
def asOfG (l : List Cm) (n t : Int) : Int := asOfIn l t (firstG l n)
def sinceG (l : List Cm) (a n : Int) : List Int := if hasG l [a, n] then listG 2 (reachG l n 2 (reachG l a 1 marks0)) else []
def addG (l : List Cm) (c : Cm) : List Cm × Int :=
  if right l then (if l.length = 500 then ([], 5) else if faultG l c = 0 then (l ++ [c], 0) else ([], faultG l c)) else ([], (checkG l).2)

def s26 : CSpec := fun a h => match a, h with
  | [.c (.sl 2 _ _ xs)], [] => some ([isRepo xs, smallB (toRepo xs)], [V.i (checkG (toRepo xs)).1, V.i (checkG (toRepo xs)).2], [])
  | _, _ => none
def s32 : CSpec := fun a h => match a, h with
  | [.c (.sl 2 _ _ xs), .c (.sl 1 _ _ ys)], [] => some ([isRepo xs, smallB (toRepo xs), isInts ys, decide (ys.length ≤ 4294967296)], [V.b (hasG (toRepo xs) (toInts ys))], [])
  | _, _ => none
def s33 : CSpec := fun a h => match a, h with
  | [.ptr 0 0 0 0, .c (.sl 2 _ _ xs), .c (.int .i64 n), .c (.int .i64 bit)], [.mem 1 0 ms] =>
    some ([isRepo xs, smallB (toRepo xs), isInts ms, decide (ms.length = 501), right (toRepo xs), !noNum xs.length n], [], [.mem 1 0 (ints (reachG (toRepo xs) n bit (toInts ms)))])
  | _, _ => none
def s37 : CSpec := fun a h => match a, h with
  | [.ptr 0 0 0 0, .fn 38 []], [.mem 1 0 ms] => some ([isInts ms, decide (ms.length = 501)], [.c (.sl 1 none false (ints (listG 1 (toInts ms))))], [.mem 1 0 ms])
  | [.ptr 0 0 0 0, .fn 41 []], [.mem 1 0 ms] => some ([isInts ms, decide (ms.length = 501)], [.c (.sl 1 none false (ints (listG 2 (toInts ms))))], [.mem 1 0 ms])
  | _, _ => none
def s34 : CSpec := fun a h => match a, h with
  | [.buf 0 0 0 n], [.mem 1 0 xs] => some ([isInts xs, decide (xs.length = n), decide (xs.length ≤ 4294967296)], [], [.mem 1 0 (ints (toInts xs).reverse)])
  | _, _ => none
def s20 : CSpec := fun a h => match a, h with
  | [.c (.sl 2 _ _ xs), .c (.int .i64 n)], [] => some ([isRepo xs, smallB (toRepo xs)], [.c (.sl 1 none false (ints (firstG (toRepo xs) n)))], [])
  | _, _ => none
end Go.Proofs.Ytkdinelcmanfcaa
