/-
  Chapter 12 (graph): trees of Clone, written by a program.
-/
import Derived.Test.YtkdinelcmanfcaaGP10
set_option linter.unusedSimpArgs false
set_option linter.unusedVariables false
namespace Go.Proofs.Ytkdinelcmanfcaa
open Go Go.Ev
noncomputable abbrev p44 : Par := par E sh (ctOf []) 44 1 0
theorem t44a (t : Bool) : p44.ft ([V.c (C.sl 1 (some true) t [])]) ([]) = (Tr.br true (Tr.leaf (R.out [V.c (C.sl 1 none false [])] [])) (Tr.chk true (Tr.chk true (Tr.chk true (Tr.chk true (Tr.leaf (R.out [V.c (C.sl 1 none false [])] []))))))) := by kernel_rfl
theorem t44b (t : Bool) : p44.ft ([V.c (C.sl 1 (some false) t [])]) ([]) = (Tr.br false (Tr.leaf (R.out [V.c (C.sl 1 none false [])] [])) (Tr.chk true (Tr.chk true (Tr.chk true (Tr.chk true (Tr.leaf (R.out [V.c (C.sl 1 none false [])] []))))))) := by kernel_rfl
theorem t44c (t : Bool) (x : List C) (xs : List (List C)) : p44.ft ([V.c (C.sl 1 none t (x :: xs))]) ([]) = (Tr.br false (Tr.leaf (R.out [V.c (C.sl 1 none false [])] [])) (Tr.chk true (Tr.chk true (Tr.chk (decide (0 + (x :: xs).length < 4294967296)) (Tr.chk true (Tr.leaf (R.out [V.c (C.sl 1 none false (List.take (0 + (x :: xs).length) ([] ++ x :: xs)))] []))))))) := by kernel_rfl
noncomputable abbrev p45 : Par := par E sh (ctOf []) 45 1 0
theorem t45a (t : Bool) : p45.ft ([V.c (C.sl 2 (some true) t [])]) ([]) = (Tr.br true (Tr.leaf (R.out [V.buf 0 0 0 0] [O.mem 2 0 []])) (Tr.chk true (Tr.chk true (Tr.chk true (Tr.chk true (Tr.leaf (R.out [V.buf 0 0 0 0] [O.mem 2 0 []]))))))) := by kernel_rfl
theorem t45b (t : Bool) : p45.ft ([V.c (C.sl 2 (some false) t [])]) ([]) = (Tr.br false (Tr.leaf (R.out [V.buf 0 0 0 0] [O.mem 2 0 []])) (Tr.chk true (Tr.chk true (Tr.chk true (Tr.chk true (Tr.leaf (R.out [V.buf 0 0 0 0] [O.mem 2 0 []]))))))) := by kernel_rfl
theorem t45c (t : Bool) (x : List C) (xs : List (List C)) : p45.ft ([V.c (C.sl 2 none t (x :: xs))]) ([]) = (Tr.br false (Tr.leaf (R.out [V.buf 0 0 0 0] [O.mem 2 0 []])) (Tr.chk true (Tr.chk true (Tr.chk (decide (0 + (x :: xs).length < 4294967296)) (Tr.chk true (Tr.leaf (R.out [V.buf 0 0 0 (0 + (x :: xs).length)] [O.mem 2 0 ([] ++ x :: xs)]))))))) := by kernel_rfl
def s44 : CSpec := fun a h => match a, h with
  | [.c (.sl 1 none _ xs)], [] => some ([decide (xs.length < 4294967296)], [.c (.sl 1 none false xs)], [])
  | _, _ => none
def s45 : CSpec := fun a h => match a, h with
  | [.c (.sl 2 none _ xs)], [] => some ([decide (xs.length < 4294967296)], [.buf 0 0 0 xs.length], [.mem 2 0 xs])
  | _, _ => none
noncomputable abbrev p28 : Par := par E sh (ctOf [(26, s26), (42, s42), (44, s44), (45, s45)]) 28 2 0
theorem t28 (t : Bool) (xs : List (List C)) (ys : List (List C)) (st : Int) : p28.ft ([V.c (C.sl 2 none t xs), V.agg [V.c (C.sl 1 none false ys), V.i st]]) ([]) = (Tr.chk (isRepo xs) (Tr.chk (smallB (toRepo xs)) (Tr.br ((checkG (toRepo xs)).snd != 0) (Tr.leaf (R.out [V.c (C.sl 2 none false []), V.c (C.int IntKind.i64 (checkG (toRepo xs)).snd)] [])) (Tr.br ((↑xs.length : Int) == 500) (Tr.leaf (R.out [V.c (C.sl 2 none false []), V.c (C.int IntKind.i64 5)] [])) (Tr.chk (isRepo xs) (Tr.chk (decide (xs.length ≤ 500)) (Tr.chk (isInts ys) (Tr.chk (decide (ys.length ≤ 4294967296)) (Tr.br (faultG (toRepo xs) (toInts ys, st) != 0) (Tr.leaf (R.out [V.c (C.sl 2 none false []), V.c (C.int IntKind.i64 (faultG (toRepo xs) (toInts ys, st)))] [])) (Tr.chk (decide (ys.length < 4294967296)) (Tr.chk (decide (xs.length < 4294967296)) (Tr.chk true (Tr.chk true (Tr.chk (decide (xs.length + 1 < 4294967296)) (Tr.chk true (Tr.leaf (R.out [V.c (C.sl 2 none false (List.take (xs.length + 1) (List.take xs.length xs ++ [[C.sl 1 none false ys, C.int IntKind.i64 st]]))), V.c (C.int IntKind.i64 0)] []))))))))))))))))) := by kernel_rfl
end Go.Proofs.Ytkdinelcmanfcaa
