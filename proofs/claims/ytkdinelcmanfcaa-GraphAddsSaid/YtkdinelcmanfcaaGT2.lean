/-
  Chapter 12 (graph): more trees of graph's check, written by a program.
-/
import Derived.Test.YtkdinelcmanfcaaGP1
set_option linter.unusedSimpArgs false
set_option linter.unusedVariables false
namespace Go.Proofs.Ytkdinelcmanfcaa
open Go Go.Ev
def s51 : CSpec := fun a h => match a, h with
  | [.c (.sl 1 nl t xs), .fn 49 [.ptr 0 0 0 0]], [.box [.c (.sl 2 nl2 t2 ys)]] => some ([isInts xs, decide (xs.length ≤ 4294967296)], [V.i (firstAt (noNum ys.length) (toInts xs))], [.box [.c (.sl 2 nl2 t2 ys)]])
  | [.c (.sl 1 nl t xs), .fn 47 [.ptr 0 0 0 0]], [.box [.c (.sl 2 nl2 t2 ys)]] => some ([isInts xs, decide (xs.length ≤ 4294967296)], [V.i (firstAt (noNum ys.length) (toInts xs))], [.box [.c (.sl 2 nl2 t2 ys)]])
  | [.c (.sl 1 nl t xs), .fn 50 [.ptr 0 0 0 0, .ptr 1 0 0 0]], [.box [.c (.sl 2 nl2 t2 ys)], .box [.c c, .c (.int .i64 st)]] =>
    some ([isInts xs, decide (xs.length ≤ 4294967296), isRepo ys, decide (ys.length ≤ 500), (toInts xs).all fun n => !noNum ys.length n], [V.i (firstAt (lateFor (toRepo ys) st) (toInts xs))], [.box [.c (.sl 2 nl2 t2 ys)], .box [.c c, .c (.int .i64 st)]])
  | _, _ => none
noncomputable abbrev p46a : Par := par E sh (ctOf [(51, s51)]) 46 2 1
noncomputable abbrev p46b : Par := par E sh (ctOf [(51, s51)]) 46 2 2
theorem t46a (nl : Option Bool) (t : Bool) (xs : List (List C)) (nl2 : Option Bool) (t2 : Bool) (ys : List (List C)) : p46a.ft [V.c (C.sl 1 nl t xs), V.fn 49 [V.ptr 0 0 0 0]] [O.box [V.c (C.sl 2 nl2 t2 ys)]] = Tr.chk (isInts xs) (Tr.chk (decide (xs.length ≤ 4294967296)) (Tr.leaf (R.out [V.c (C.bool (decide (0 ≤ firstAt (noNum ys.length) (toInts xs))))] [O.box [V.c (C.sl 2 nl2 t2 ys)]]))) := by kernel_rfl
theorem t46c (nl : Option Bool) (t : Bool) (xs : List (List C)) (nl2 : Option Bool) (t2 : Bool) (ys : List (List C)) : p46a.ft [V.c (C.sl 1 nl t xs), V.fn 47 [V.ptr 0 0 0 0]] [O.box [V.c (C.sl 2 nl2 t2 ys)]] = Tr.chk (isInts xs) (Tr.chk (decide (xs.length ≤ 4294967296)) (Tr.leaf (R.out [V.c (C.bool (decide (0 ≤ firstAt (noNum ys.length) (toInts xs))))] [O.box [V.c (C.sl 2 nl2 t2 ys)]]))) := by kernel_rfl
theorem t46b (nl : Option Bool) (t : Bool) (xs : List (List C)) (nl2 : Option Bool) (t2 : Bool) (ys : List (List C)) (c : C) (st : Int) : p46b.ft [V.c (C.sl 1 nl t xs), V.fn 50 [V.ptr 0 0 0 0, V.ptr 1 0 0 0]] [O.box [V.c (C.sl 2 nl2 t2 ys)], O.box [V.c c, V.i st]] = Tr.chk (isInts xs) (Tr.chk (decide (xs.length ≤ 4294967296)) (Tr.chk (isRepo ys) (Tr.chk (decide (ys.length ≤ 500)) (Tr.chk ((toInts xs).all fun (n : Int) => !noNum ys.length n) (Tr.leaf (R.out [V.c (C.bool (decide (0 ≤ firstAt (lateFor (toRepo ys) st) (toInts xs))))] [O.box [V.c (C.sl 2 nl2 t2 ys)], O.box [V.c c, V.c (C.int IntKind.i64 st)]])))))) := by kernel_rfl
end Go.Proofs.Ytkdinelcmanfcaa
