/-
  Chapter 12 (graph): what the reference computes, in plain Lean, step by step as the code does; what is known of each as a callee.
-/
import Derived.Test.YtkdinelcmanfcaaGP8
set_option linter.unusedSimpArgs false
set_option linter.unusedVariables false
namespace Go.Proofs.Ytkdinelcmanfcaa
open Go Go.Ev

def maxP (out : List Int) : List Int → Int → Int
  | [], g => g
  | p :: ps, g => maxP out ps (if g < out.getD (p - 1).toNat 0 then out.getD (p - 1).toNat 0 else g)
def gensR : List Cm → List Int → List Int
  | [], out => out
  | c :: r, out => gensR r (out ++ [maxP out c.1 0 + 1])
def genR (l : List Cm) (n : Int) : Int := if hasG l [n] then (gensR l []).getD (n - 1).toNat 0 else 0
def reachesFrom (l : List Cm) : Nat → List Int → List Int → List Int
  | 0, _, out => out
  | k + 1, open', out => if open'.contains ((k + 1 : Nat) : Int) then reachesFrom l k (open' ++ (l.getD k ([], 0)).1) (((k + 1 : Nat) : Int) :: out) else reachesFrom l k open' out
def reachesR (l : List Cm) (n : Int) : List Int := reachesFrom l n.toNat [n] []
def reachR (l : List Cm) (n : Int) : List Int := if hasG l [n] then reachesR l n else []
def lastOf (l : List Cm) (b : Int) : List Int → Bool
  | [] => true
  | x :: r => !(reachesR l x).contains b && lastOf l b r
def basesIn (l : List Cm) : List Int → List Int
  | [] => []
  | x :: r => if lastOf l x r then x :: basesIn l r else basesIn l r
def basesR (l : List Cm) (a b : Int) : List Int := if hasG l [a] && hasG l [b] then basesIn l ((reachesR l a).filter fun x => (reachesR l b).contains x) else []
def firstFromR (l : List Cm) : Nat → Int → List Int
  | 0, _ => []
  | k + 1, n => match (l.getD (n - 1).toNat ([], 0)).1 with
    | [] => []
    | p :: _ => p :: firstFromR l k p
def firstR (l : List Cm) (n : Int) : List Int := if hasG l [n] then n :: firstFromR l (l.length - 1) n else []
def asOfR (l : List Cm) (n t : Int) : Int := asOfIn l t (firstR l n)
def sinceR (l : List Cm) (a n : Int) : List Int := if hasG l [a] && hasG l [n] then (reachesR l n).filter fun x => !(reachesR l a).contains x else []
def addR (l : List Cm) (c : Cm) : List Cm × Int :=
  if right l then (if right (l ++ [c]) then (l ++ [c], 0) else ([], (checkG (l ++ [c])).2)) else ([], (checkG l).2)

def s43 : CSpec := fun a h => match a, h with
  | [.c (.sl 2 _ _ xs), .c (.int .i64 n)], [] => some ([isRepo xs, smallB (toRepo xs), !noNum xs.length n, decide (xs.length ≤ 4294967296)], [V.i (faultG ((toRepo xs).take (n - 1).toNat) ((toRepo xs).getD (n - 1).toNat ([], 0)))], [])
  | _, _ => none
def s27 : CSpec := s26
def s48 : CSpec := fun a h => match a, h with
  | [.c (.sl 2 _ _ xs)], [] => some ([isRepo xs, smallB (toRepo xs)], [V.b (right (toRepo xs))], [])
  | _, _ => none
def s35 : CSpec := fun a h => match a, h with
  | [.c (.sl 2 _ _ xs), .c (.int .i64 n)], [] => some ([isRepo xs, smallB (toRepo xs)], [V.b (hasG (toRepo xs) [n])], [])
  | _, _ => none
def s36 : CSpec := fun a h => match a, h with
  | [.c (.sl 2 _ _ xs)], [] => some ([isRepo xs, right (toRepo xs)], [.c (.sl 1 none false (ints (gensR (toRepo xs) [])))], [])
  | _, _ => none
def s40 : CSpec := fun a h => match a, h with
  | [.c (.sl 1 _ _ xs), .c (.int .i64 n)], [] => some ([isInts xs, decide (xs.length < 4294967296)], [V.b ((toInts xs).contains n)], [])
  | _, _ => none
def s39 : CSpec := fun a h => match a, h with
  | [.c (.sl 2 _ _ xs), .c (.int .i64 n)], [] => some ([isRepo xs, right (toRepo xs), !noNum xs.length n], [.c (.sl 1 none false (ints (reachesR (toRepo xs) n)))], [])
  | _, _ => none
def s17 : CSpec := fun a h => match a, h with
  | [.c (.sl 2 _ _ xs), .c (.int .i64 n)], [] => some ([isRepo xs, smallB (toRepo xs)], [.c (.sl 1 none false (ints (reachR (toRepo xs) n)))], [])
  | _, _ => none
def s21 : CSpec := fun a h => match a, h with
  | [.c (.sl 2 _ _ xs), .c (.int .i64 n)], [] => some ([isRepo xs, smallB (toRepo xs)], [.c (.sl 1 none false (ints (firstR (toRepo xs) n)))], [])
  | _, _ => none
def s14 : CSpec := fun a h => match a, h with
  | [.c (.sl 1 _ _ xs), .c (.sl 1 _ _ ys)], [] => some ([isInts xs, isInts ys, decide (xs.length ≤ 4294967296)], [V.b (toInts xs == toInts ys)], [])
  | _, _ => none
end Go.Proofs.Ytkdinelcmanfcaa
