/-
  Chapter 12 (graph): trees of fault, written by a program.
-/
import Derived.Test.YtkdinelcmanfcaaGP2
set_option linter.unusedSimpArgs false
set_option linter.unusedVariables false
namespace Go.Proofs.Ytkdinelcmanfcaa
open Go Go.Ev
def s46 : CSpec := fun a h => match a, h with
  | [.c (.sl 1 _ _ xs), .fn 49 [.ptr 0 0 0 0]], [.box [.c (.sl 2 nl2 t2 ys)]] => some ([isInts xs, decide (xs.length ≤ 4294967296)], [V.b ((toInts xs).any (noNum ys.length))], [.box [.c (.sl 2 nl2 t2 ys)]])
  | [.c (.sl 1 _ _ xs), .fn 47 [.ptr 0 0 0 0]], [.box [.c (.sl 2 nl2 t2 ys)]] => some ([isInts xs, decide (xs.length ≤ 4294967296)], [V.b ((toInts xs).any (noNum ys.length))], [.box [.c (.sl 2 nl2 t2 ys)]])
  | [.c (.sl 1 _ _ xs), .fn 50 [.ptr 0 0 0 0, .ptr 1 0 0 0]], [.box [.c (.sl 2 nl2 t2 ys)], .box [.c c, .c (.int .i64 st)]] =>
    some ([isInts xs, decide (xs.length ≤ 4294967296), isRepo ys, decide (ys.length ≤ 500), (toInts xs).all fun n => !noNum ys.length n], [V.b ((toInts xs).any (lateFor (toRepo ys) st))], [.box [.c (.sl 2 nl2 t2 ys)], .box [.c c, .c (.int .i64 st)]])
  | _, _ => none
noncomputable abbrev p42 : Par := par E sh (ctOf [(46, s46)]) 42 2 0
theorem t42 (nl : Option Bool) (t : Bool) (xs : List (List C)) (nl2 : Option Bool) (t2 : Bool) (ps : List (List C)) (st : Int) : p42.ft [V.c (C.sl 2 nl t xs), V.agg [V.c (C.sl 1 nl2 t2 ps), V.i st]] [] = Tr.br (decide (st < 0)) (Tr.leaf (R.out [V.c (C.int IntKind.i64 2)] [])) (Tr.br (decide (1099511627776 < st)) (Tr.leaf (R.out [V.c (C.int IntKind.i64 2)] [])) (Tr.br (decide (2 < (↑ps.length : Int))) (Tr.leaf (R.out [V.c (C.int IntKind.i64 2)] [])) (Tr.br ((↑ps.length : Int) == 2) (Tr.chk true (Tr.chk true (Tr.chk (decide (Int.toNat 0 < ps.length)) (Tr.chk (shOk [Sk.int IntKind.i64] (ps.getD (Int.toNat 0) [])) (Tr.chk true (Tr.chk true (Tr.chk (decide (Int.toNat 1 < ps.length)) (Tr.chk (shOk [Sk.int IntKind.i64] (ps.getD (Int.toNat 1) [])) (Tr.br (((ps.getD (Int.toNat 0) []).headD C.pnil).i == ((ps.getD (Int.toNat 1) []).headD C.pnil).i) (Tr.leaf (R.out [V.c (C.int IntKind.i64 2)] [])) (Tr.chk (isInts ps) (Tr.chk (decide (ps.length ≤ 4294967296)) (Tr.br ((toInts ps).any (noNum xs.length)) (Tr.leaf (R.out [V.c (C.int IntKind.i64 17)] [])) (Tr.chk (isInts ps) (Tr.chk (decide (ps.length ≤ 4294967296)) (Tr.chk (isRepo xs) (Tr.chk (decide (xs.length ≤ 500)) (Tr.chk ((toInts ps).all fun (n : Int) => !noNum xs.length n) (Tr.br ((toInts ps).any (lateFor (toRepo xs) st)) (Tr.leaf (R.out [V.c (C.int IntKind.i64 14)] [])) (Tr.leaf (R.out [V.c (C.int IntKind.i64 0)] [])))))))))))))))))))) (Tr.chk (isInts ps) (Tr.chk (decide (ps.length ≤ 4294967296)) (Tr.br ((toInts ps).any (noNum xs.length)) (Tr.leaf (R.out [V.c (C.int IntKind.i64 17)] [])) (Tr.chk (isInts ps) (Tr.chk (decide (ps.length ≤ 4294967296)) (Tr.chk (isRepo xs) (Tr.chk (decide (xs.length ≤ 500)) (Tr.chk ((toInts ps).all fun (n : Int) => !noNum xs.length n) (Tr.br ((toInts ps).any (lateFor (toRepo xs) st)) (Tr.leaf (R.out [V.c (C.int IntKind.i64 14)] [])) (Tr.leaf (R.out [V.c (C.int IntKind.i64 0)] [])))))))))))))) := by kernel_rfl
end Go.Proofs.Ytkdinelcmanfcaa
