/-
  Chapter 09 (radix), trees, written by a program: Build, the reference's Build; Chapter 09 (radix), trees, written by a program: Build; Chapter 09 (radix), plain: entries put one after the other, in whatever order; Build; Chapter 09 (radix): Build, the reference's Build; Chapter 09 (radix): the reference's Build; few; the same entries; Chapter 09 (radix): Build and few as tables; Chapter 09 (radix), trees, written by a program: the reference's Nodes; RadixBuilds; Chapter 09 (radix): the laws, but for their arguments' reading: RadixBuilds; Chapter 09 (radix): RadixBuilds at arguments that read a.
-/
import Derived.Test.YtgaabjmbnomimaaDoorQM2
set_option linter.all false
namespace Go.Proofs.YtgaabjmbnomimaaDoor
open Go Go.Ev
-- cse
variable (dd : Nat)
noncomputable abbrev p70 : Par := par E sh (ctOf [(63, s63), (64, s64)]) 70 1 0
theorem t70 (p : Bys) (rn : OBo) (rt : Bool) (xs : LLC) : p70.ft ([V.agg [V.c (C.str p), V.c (C.sl 5 rn rt xs)]]) ([]) = (Tr.br (!isPath p) (Tr.leaf (R.out [V.c (C.bool true)] [])) (Tr.br ((↑xs.length : Int) == 0) (Tr.leaf (R.out [V.c (C.bool true)] [])) (Tr.chk (isRows xs) (Tr.leaf (R.out [V.c (C.bool (checkR (toRows xs) != 0))] []))))) := by kernel_rfl
def goodE (e : Ent) : Bool := isPath e.1 && decide (e.2 ≠ []) && right e.2
def s70 : CSpec := fun a h => match a, h with
  | [.agg [.c (.str p), .c (.sl 5 rn rt xs)]], [] => some ([isRows xs], [V.b (!goodE (p, toRows xs))], [])
  | _, _ => none
noncomputable abbrev p126 : Par := par E sh (ctOf [(70, s70)]) 126 2 0
abbrev s126_0 (nl : OBo) (tt : Bool) (xs : LLC) (i7 : Int) (i8 : Int) : Fr × Hp := ([(0, V.c (C.sl 2 nl tt xs)), (1, V.fn 70 []), (7, V.c (C.int IntKind.i64 i7)), (8, V.c (C.int IntKind.i64 i8))], [])
noncomputable abbrev b126_0 : Code := loopAt (codeOf E (126)) 0
abbrev x126_0x0 (i8 : Int) : Ex × Fr × Hp := (Ex.ret, [(4, V.c (C.int IntKind.i64 i8))], [])
abbrev x126_0x1 (nl : OBo) (tt : Bool) (xs : LLC) (i7 : Int) (i8 : Int) : Ex × Fr × Hp := (Ex.exit 0, [(0, V.c (C.sl 2 nl tt xs)), (1, V.fn 70 []), (7, V.c (C.int IntKind.i64 i7)), (8, V.c (C.int IntKind.i64 i8)), (9, V.c (C.bool false))], [])
theorem t126_0 (nl : OBo) (tt : Bool) (xs : LLC) (i7 : Int) (i8 : Int) : p126.lts b126_0 (s126_0 nl tt xs i7 i8) = (Tr.br (decide (i8 < i7)) (Tr.chk (decide (0 ≤ i8)) (Tr.chk true (Tr.chk (decide (i8.toNat < xs.length)) (Tr.chk (shOk [Sk.str, Sk.sl 5] (xs.getD i8.toNat [])) (Tr.chk (isRows ((xs.getD i8.toNat []).tail.headD C.pnil).xs) (Tr.br (!goodE (((xs.getD i8.toNat []).headD C.pnil).st, toRows ((xs.getD i8.toNat []).tail.headD C.pnil).xs)) (Tr.leaf (R.x (x126_0x0 i8))) (Tr.leaf (R.s (s126_0 nl tt xs i7 (IntKind.i64.wrap (i8 + 1))))))))))) (Tr.leaf (R.x (x126_0x1 nl tt xs i7 i8)))) := by kernel_rfl
theorem k126_0x0 (i8 : Int) : p126.fkx 0 (x126_0x0 i8) = (Tr.leaf (R.out [V.c (C.int IntKind.i64 i8)] [])) := by kernel_rfl
theorem k126_0x1 (nl : OBo) (tt : Bool) (xs : LLC) (i7 : Int) (i8 : Int) : p126.fkx 0 (x126_0x1 nl tt xs i7 i8) = (Tr.leaf (R.out [V.c (C.int IntKind.i64 (-1))] [])) := by kernel_rfl
theorem t126 (nl : OBo) (tt : Bool) (xs : LLC) : p126.ft ([V.c (C.sl 2 nl tt xs), V.fn 70 []]) ([]) = (Tr.ls 0 (s126_0 nl tt xs ((↑xs.length : Int)) (0))) := by kernel_rfl
def idxE (f : Ent → Bool) : List Ent → Nat → Int
  | [], _ => -1
  | c :: r, k => if f c = true then k else idxE f r (k + 1)
def s126 : CSpec := fun a h => match a, h with
  | [.c (.sl 2 nl tt xs), .fn 70 []], [] => some ([isEs xs, decide (xs.length ≤ 9223372036854775807)], [V.i (idxE (fun e => !goodE e) (toEs xs) 0)], [])
  | _, _ => none
noncomputable abbrev p71 : Par := par E sh (ctOf [(126, s126)]) 71 2 0
theorem t71 (nl : OBo) (tt : Bool) (xs : LLC) : p71.ft ([V.c (C.sl 2 nl tt xs), V.fn 70 []]) ([]) = (Tr.chk (isEs xs) (Tr.chk (decide (xs.length ≤ 9223372036854775807)) (Tr.leaf (R.out [V.c (C.bool (decide (0 ≤ idxE (fun (e : Ent) => !goodE e) (toEs xs) 0)))] [])))) := by kernel_rfl
def s71 : CSpec := fun a h => match a, h with
  | [.c (.sl 2 nl tt xs), .fn 70 []], [] => some ([isEs xs, decide (xs.length ≤ 9223372036854775807)], [V.b (!(toEs xs).all goodE)], [])
  | _, _ => none
noncomputable abbrev p76 : Par := par E sh (ctOf []) 76 1 0
theorem t76 (p : Bys) : p76.ft ([V.c (C.str p)]) ([]) = (Tr.br (decide (1 ≤ (↑p.length : Int))) (Tr.leaf (R.out [V.c (C.bool (decide ((↑p.length : Int) ≤ 24)))] [])) (Tr.leaf (R.out [V.c (C.bool false)] []))) := by kernel_rfl
def s76 : CSpec := fun a h => match a, h with
  | [.c (.str p)], [] => some ([], [V.b (isPath p)], [])
  | _, _ => none
noncomputable abbrev p78 : Par := par E sh (ctOf []) 78 2 0
abbrev s78_0 (nl : OBo) (tt : Bool) (xs : LLC) (p : Bys) (rn : OBo) (rt : Bool) (ys : LLC) (n5 : Nat) (b6 : Bool) (i7 : Int) (ys1 : LLC) : Fr × Hp := ([(0, V.c (C.sl 2 nl tt xs)), (3, V.ptr 0 0 0 0), (5, V.buf 1 0 0 n5), (6, V.c (C.bool b6)), (7, V.c (C.int IntKind.i64 i7))], [O.box [V.c (C.str p), V.c (C.sl 5 rn rt ys)], O.mem 2 0 ys1])
noncomputable abbrev b78_0 : Code := loopAt (codeOf E (78)) 0
abbrev x78_0x0 (nl : OBo) (tt : Bool) (xs : LLC) (p : Bys) (rn : OBo) (rt : Bool) (ys : LLC) (n5 : Nat) (b6 : Bool) (i7 : Int) (ys1 : LLC) : Ex × Fr × Hp := (Ex.exit 0, [(0, V.c (C.sl 2 nl tt xs)), (3, V.ptr 0 0 0 0), (5, V.buf 1 0 0 n5), (6, V.c (C.bool b6)), (7, V.c (C.int IntKind.i64 i7)), (15, V.c (C.bool false))], [O.box [V.c (C.str p), V.c (C.sl 5 rn rt ys)], O.mem 2 0 ys1])
theorem t78_0 (nl : OBo) (tt : Bool) (xs : LLC) (p : Bys) (rn : OBo) (rt : Bool) (ys : LLC) (n5 : Nat) (b6 : Bool) (i7 : Int) (ys1 : LLC) : p78.lts b78_0 (s78_0 nl tt xs p rn rt ys n5 b6 i7 ys1) = (Tr.br (decide (i7 < (↑xs.length : Int))) (Tr.br (!b6) (Tr.chk (decide (0 ≤ i7)) (Tr.chk true (Tr.chk (decide (i7.toNat < xs.length)) (Tr.chk (shOk [Sk.str, Sk.sl 5] (xs.getD i7.toNat [])) (Tr.br (!Op.bytesLess ((xs.getD i7.toNat []).headD C.pnil).st p) (Tr.chk true (Tr.chk true (Tr.chk (decide (n5 + 1 < 4294967296)) (Tr.chk true (Tr.chk (decide (0 ≤ i7)) (Tr.chk true (Tr.chk (decide (i7.toNat < xs.length)) (Tr.chk (shOk [Sk.str, Sk.sl 5] (xs.getD i7.toNat [])) (Tr.br (!((xs.getD i7.toNat []).headD C.pnil).st == p) (Tr.chk (decide (0 ≤ i7)) (Tr.chk true (Tr.chk (decide (i7.toNat < xs.length)) (Tr.chk (shOk [Sk.str, Sk.sl 5] (xs.getD i7.toNat [])) (Tr.chk true (Tr.chk true (Tr.chk (decide (n5 + 1 + 1 < 4294967296)) (Tr.chk true (Tr.leaf (R.s (s78_0 nl tt xs p rn rt ys (n5 + 1 + 1) true (IntKind.i64.wrap (i7 + 1)) (List.take (n5 + 1) (List.take n5 ys1 ++ [[C.str p, C.sl 5 rn rt ys]]) ++ [[Sk.str.mk ((xs.getD i7.toNat []).headD C.pnil), (Sk.sl 5).mk ((xs.getD i7.toNat []).tail.headD C.pnil)]])))))))))))) (Tr.leaf (R.s (s78_0 nl tt xs p rn rt ys (n5 + 1) true (IntKind.i64.wrap (i7 + 1)) (List.take n5 ys1 ++ [[C.str p, C.sl 5 rn rt ys]]))))))))))))) (Tr.chk (decide (0 ≤ i7)) (Tr.chk true (Tr.chk (decide (i7.toNat < xs.length)) (Tr.chk (shOk [Sk.str, Sk.sl 5] (xs.getD i7.toNat [])) (Tr.br (!((xs.getD i7.toNat []).headD C.pnil).st == p) (Tr.chk (decide (0 ≤ i7)) (Tr.chk true (Tr.chk (decide (i7.toNat < xs.length)) (Tr.chk (shOk [Sk.str, Sk.sl 5] (xs.getD i7.toNat [])) (Tr.chk true (Tr.chk true (Tr.chk (decide (n5 + 1 < 4294967296)) (Tr.chk true (Tr.leaf (R.s (s78_0 nl tt xs p rn rt ys (n5 + 1) b6 (IntKind.i64.wrap (i7 + 1)) (List.take n5 ys1 ++ [[Sk.str.mk ((xs.getD i7.toNat []).headD C.pnil), (Sk.sl 5).mk ((xs.getD i7.toNat []).tail.headD C.pnil)]])))))))))))) (Tr.leaf (R.s (s78_0 nl tt xs p rn rt ys n5 b6 (IntKind.i64.wrap (i7 + 1)) ys1))))))))))))) (Tr.chk (decide (0 ≤ i7)) (Tr.chk true (Tr.chk (decide (i7.toNat < xs.length)) (Tr.chk (shOk [Sk.str, Sk.sl 5] (xs.getD i7.toNat [])) (Tr.br (!((xs.getD i7.toNat []).headD C.pnil).st == p) (Tr.chk (decide (0 ≤ i7)) (Tr.chk true (Tr.chk (decide (i7.toNat < xs.length)) (Tr.chk (shOk [Sk.str, Sk.sl 5] (xs.getD i7.toNat [])) (Tr.chk true (Tr.chk true (Tr.chk (decide (n5 + 1 < 4294967296)) (Tr.chk true (Tr.leaf (R.s (s78_0 nl tt xs p rn rt ys (n5 + 1) b6 (IntKind.i64.wrap (i7 + 1)) (List.take n5 ys1 ++ [[Sk.str.mk ((xs.getD i7.toNat []).headD C.pnil), (Sk.sl 5).mk ((xs.getD i7.toNat []).tail.headD C.pnil)]])))))))))))) (Tr.leaf (R.s (s78_0 nl tt xs p rn rt ys n5 b6 (IntKind.i64.wrap (i7 + 1)) ys1))))))))) (Tr.leaf (R.x (x78_0x0 nl tt xs p rn rt ys n5 b6 i7 ys1)))) := by kernel_rfl
theorem k78_0x0 (nl : OBo) (tt : Bool) (xs : LLC) (p : Bys) (rn : OBo) (rt : Bool) (ys : LLC) (n5 : Nat) (b6 : Bool) (i7 : Int) (ys1 : LLC) : p78.fkx 0 (x78_0x0 nl tt xs p rn rt ys n5 b6 i7 ys1) = (Tr.br (!b6) (Tr.chk true (Tr.chk true (Tr.chk (decide (n5 + 1 < 4294967296)) (Tr.chk true (Tr.leaf (R.out [V.c (C.sl 2 none false (List.take (n5 + 1) (List.take n5 ys1 ++ [[C.str p, C.sl 5 rn rt ys]])))] [])))))) (Tr.leaf (R.out [V.c (C.sl 2 none false (List.take n5 ys1))] []))) := by kernel_rfl
theorem t78 (nl : OBo) (tt : Bool) (xs : LLC) (p : Bys) (rn : OBo) (rt : Bool) (ys : LLC) : p78.ft ([V.c (C.sl 2 nl tt xs), V.agg [V.c (C.str p), V.c (C.sl 5 rn rt ys)]]) ([]) = (Tr.ls 0 (s78_0 nl tt xs p rn rt ys (0) ((↑ys.length : Int) == 0) (0) ([]))) := by kernel_rfl
def insQ (put : Bool) (e : Ent) : List Ent → List Ent
  | [] => cond put [] [e]
  | x :: r => cond (!put && !Op.bytesLess x.1 e.1) [e] [] ++ (cond (x.1 == e.1) [] [x] ++ insQ (put || !Op.bytesLess x.1 e.1) e r)
def s78 : CSpec := fun a h => match a, h with
  | [.c (.sl 2 nl tt xs), .agg [.c (.str p), .c (.sl 5 none false ys)]], [] => some ([isEs xs, isRows ys, decide (xs.length < 4294967290)], [.c (.sl 2 none false (ents (insQ (decide ((toRows ys).length = 0)) (p, toRows ys) (toEs xs))))], [])
  | _, _ => none
noncomputable abbrev p31 : Par := par E sh (ctOf [(76, s76), (77, s77), (78, s78), (79, s79 dd)]) 31 1 0
abbrev s31_0 (nl : OBo) (tt : Bool) (xs : LLC) (i4 : Int) (sh0 : Bys) (nlh0 : OBo) (th0 : Bool) (xsh0 : LLC) (nlh0_1 : OBo) (th0_1 : Bool) (xsh0_1 : LLC) : Fr × Hp := ([(0, V.c (C.sl 2 nl tt xs)), (2, V.ptr 0 0 0 0), (4, V.c (C.int IntKind.i64 i4))], [O.box [V.c (C.str sh0), V.c (C.sl 5 nlh0 th0 xsh0), V.c (C.sl 3 nlh0_1 th0_1 xsh0_1)]])
noncomputable abbrev b31_0 : Code := loopAt (codeOf E (31)) 0
abbrev x31_0x0 : Ex × Fr × Hp := (Ex.ret, [(2, V.ptr 0 0 0 0), (3, V.c (C.int IntKind.i64 2))], [O.box [V.c (C.str []), V.c (C.sl 5 (some true) true []), V.c (C.sl 3 (some true) true [])]])
abbrev x31_0x1 (nl : OBo) (tt : Bool) (xs : LLC) (i4 : Int) (sh0 : Bys) (nlh0 : OBo) (th0 : Bool) (xsh0 : LLC) (nlh0_1 : OBo) (th0_1 : Bool) (xsh0_1 : LLC) : Ex × Fr × Hp := (Ex.exit 0, [(0, V.c (C.sl 2 nl tt xs)), (2, V.ptr 0 0 0 0), (4, V.c (C.int IntKind.i64 i4)), (10, V.c (C.bool false))], [O.box [V.c (C.str sh0), V.c (C.sl 5 nlh0 th0 xsh0), V.c (C.sl 3 nlh0_1 th0_1 xsh0_1)]])
abbrev s31_1 (nl : OBo) (tt : Bool) (xs : LLC) (sh0 : Bys) (nlh0 : OBo) (th0 : Bool) (xsh0 : LLC) (nlh0_1 : OBo) (th0_1 : Bool) (xsh0_1 : LLC) (nl5 : OBo) (t5 : Bool) (xs5 : LLC) (i6 : Int) : Fr × Hp := ([(0, V.c (C.sl 2 nl tt xs)), (2, V.ptr 0 0 0 0), (5, V.c (C.sl 2 nl5 t5 xs5)), (6, V.c (C.int IntKind.i64 i6))], [O.box [V.c (C.str sh0), V.c (C.sl 5 nlh0 th0 xsh0), V.c (C.sl 3 nlh0_1 th0_1 xsh0_1)]])
noncomputable abbrev b31_1 : Code := loopAt (codeOf E (31)) 1
abbrev x31_1x0 (nl : OBo) (tt : Bool) (xs : LLC) (sh0 : Bys) (nlh0 : OBo) (th0 : Bool) (xsh0 : LLC) (nlh0_1 : OBo) (th0_1 : Bool) (xsh0_1 : LLC) (nl5 : OBo) (t5 : Bool) (xs5 : LLC) (i6 : Int) : Ex × Fr × Hp := (Ex.exit 2, [(0, V.c (C.sl 2 nl tt xs)), (2, V.ptr 0 0 0 0), (5, V.c (C.sl 2 nl5 t5 xs5)), (6, V.c (C.int IntKind.i64 i6)), (42, V.c (C.bool false))], [O.box [V.c (C.str sh0), V.c (C.sl 5 nlh0 th0 xsh0), V.c (C.sl 3 nlh0_1 th0_1 xsh0_1)]])
theorem t31_0 (nl : OBo) (tt : Bool) (xs : LLC) (i4 : Int) (sh0 : Bys) (nlh0 : OBo) (th0 : Bool) (xsh0 : LLC) (nlh0_1 : OBo) (th0_1 : Bool) (xsh0_1 : LLC) : (p31 dd).lts b31_0 (s31_0 nl tt xs i4 sh0 nlh0 th0 xsh0 nlh0_1 th0_1 xsh0_1) = (Tr.br (decide (i4 < (↑xs.length : Int))) (Tr.chk (decide (0 ≤ i4)) (Tr.chk true (Tr.chk (decide (i4.toNat < xs.length)) (Tr.chk (shOk [Sk.str, Sk.sl 5] (xs.getD i4.toNat [])) (Tr.br (!isPath ((xs.getD i4.toNat []).headD C.pnil).st) (Tr.leaf (R.x x31_0x0)) (Tr.chk (decide (0 ≤ i4)) (Tr.chk true (Tr.chk (decide (i4.toNat < xs.length)) (Tr.chk (shOk [Sk.str, Sk.sl 5] (xs.getD i4.toNat [])) (Tr.br ((↑((xs.getD i4.toNat []).tail.headD C.pnil).xs.length : Int) == 0) (Tr.leaf (R.x x31_0x0)) (Tr.chk (decide (0 ≤ i4)) (Tr.chk true (Tr.chk (decide (i4.toNat < xs.length)) (Tr.chk (shOk [Sk.str, Sk.sl 5] (xs.getD i4.toNat [])) (Tr.chk (isRows ((xs.getD i4.toNat []).tail.headD C.pnil).xs) (Tr.br (!right (toRows ((xs.getD i4.toNat []).tail.headD C.pnil).xs)) (Tr.leaf (R.x x31_0x0)) (Tr.leaf (R.s (s31_0 nl tt xs (IntKind.i64.wrap (i4 + 1)) sh0 nlh0 th0 xsh0 nlh0_1 th0_1 xsh0_1))))))))))))))))))) (Tr.leaf (R.x (x31_0x1 nl tt xs i4 sh0 nlh0 th0 xsh0 nlh0_1 th0_1 xsh0_1)))) := by kernel_rfl
theorem k31_0x0 (dd : Nat) : (p31 dd).fkx 0 x31_0x0 = (Tr.leaf (R.out [V.agg [V.c (C.str []), V.c (C.sl 5 none false []), V.c (C.sl 3 none false [])], V.c (C.int IntKind.i64 2)] [])) := by kernel_rfl
theorem t31_1 (nl : OBo) (tt : Bool) (xs : LLC) (sh0 : Bys) (nlh0 : OBo) (th0 : Bool) (xsh0 : LLC) (nlh0_1 : OBo) (th0_1 : Bool) (xsh0_1 : LLC) (nl5 : OBo) (t5 : Bool) (xs5 : LLC) (i6 : Int) : (p31 dd).lts b31_1 (s31_1 nl tt xs sh0 nlh0 th0 xsh0 nlh0_1 th0_1 xsh0_1 nl5 t5 xs5 i6) = (Tr.br (decide (i6 < (↑xs.length : Int))) (Tr.chk (decide (0 ≤ i6)) (Tr.chk true (Tr.chk (decide (i6.toNat < xs.length)) (Tr.chk (shOk [Sk.str, Sk.sl 5] (xs.getD i6.toNat [])) (Tr.chk (isEs xs5) (Tr.chk (isRows ((xs.getD i6.toNat []).tail.headD C.pnil).xs) (Tr.chk (decide (xs5.length < 4294967290)) (Tr.leaf (R.s (s31_1 nl tt xs sh0 nlh0 th0 xsh0 nlh0_1 th0_1 xsh0_1 (none) false (ents (insQ (decide ((toRows ((xs.getD i6.toNat []).tail.headD C.pnil).xs).length = 0)) (((xs.getD i6.toNat []).headD C.pnil).st, toRows ((xs.getD i6.toNat []).tail.headD C.pnil).xs) (toEs xs5))) (IntKind.i64.wrap (i6 + 1)))))))))))) (Tr.leaf (R.x (x31_1x0 nl tt xs sh0 nlh0 th0 xsh0 nlh0_1 th0_1 xsh0_1 nl5 t5 xs5 i6)))) := by kernel_rfl
theorem k31_1x0 (dd : Nat) (nl : OBo) (tt : Bool) (xs : LLC) (sh0 : Bys) (nlh0 : OBo) (th0 : Bool) (xsh0 : LLC) (nlh0_1 : OBo) (th0_1 : Bool) (xsh0_1 : LLC) (nl5 : OBo) (t5 : Bool) (xs5 : LLC) (i6 : Int) : (p31 dd).fkx 1 (x31_1x0 nl tt xs sh0 nlh0 th0 xsh0 nlh0_1 th0_1 xsh0_1 nl5 t5 xs5 i6) = (Tr.br ((↑xs5.length : Int) != (↑xs.length : Int)) (Tr.leaf (R.out [V.agg [V.c (C.str []), V.c (C.sl 5 none false []), V.c (C.sl 3 none false [])], V.c (C.int IntKind.i64 16)] [])) (Tr.chk (isEs xs5) (Tr.chk (decide (xs5.length < 4294967295)) (Tr.chk (hasK dd (toEs xs5) 0) (Tr.leaf (R.out [V.agg [V.c (C.str []), V.c (C.sl 5 none false []), V.c (C.sl 3 none false (encL (Nd.node [] [] (theK dd (toEs xs5) 0)).kids))], V.c (C.int IntKind.i64 0)] [])))))) := by kernel_rfl
theorem k31_0x1 (dd : Nat) (nl : OBo) (tt : Bool) (xs : LLC) (i4 : Int) (sh0 : Bys) (nlh0 : OBo) (th0 : Bool) (xsh0 : LLC) (nlh0_1 : OBo) (th0_1 : Bool) (xsh0_1 : LLC) : (p31 dd).fkx 0 (x31_0x1 nl tt xs i4 sh0 nlh0 th0 xsh0 nlh0_1 th0_1 xsh0_1) = (Tr.ls 1 (s31_1 nl tt xs sh0 nlh0 th0 xsh0 nlh0_1 th0_1 xsh0_1 (some true) true ([]) (0))) := by kernel_rfl
theorem t31 (nl : OBo) (tt : Bool) (xs : LLC) : (p31 dd).ft ([V.c (C.sl 2 nl tt xs)]) ([]) = (Tr.ls 0 (s31_0 nl tt xs (0) ([]) (some true) true ([]) (some true) true ([]))) := by kernel_rfl
noncomputable abbrev p29 : Par := par E sh (ctOf [(23, s23)]) 29 1 0
abbrev s29_0 (nl : OBo) (tt : Bool) (xs : LLC) (i3 : Int) : Fr × Hp := ([(0, V.c (C.sl 2 nl tt xs)), (3, V.c (C.int IntKind.i64 i3))], [])
noncomputable abbrev b29_0 : Code := loopAt (codeOf E (29)) 0
abbrev x29_0x0 : Ex × Fr × Hp := (Ex.ret, [(2, V.c (C.bool false))], [])
abbrev x29_0x1 (nl : OBo) (tt : Bool) (xs : LLC) (i3 : Int) : Ex × Fr × Hp := (Ex.exit 0, [(0, V.c (C.sl 2 nl tt xs)), (3, V.c (C.int IntKind.i64 i3)), (10, V.c (C.bool false))], [])
theorem t29_0 (nl : OBo) (tt : Bool) (xs : LLC) (i3 : Int) : p29.lts b29_0 (s29_0 nl tt xs i3) = (Tr.br (decide (i3 < (↑xs.length : Int))) (Tr.chk (decide (0 ≤ i3)) (Tr.chk true (Tr.chk (decide (i3.toNat < xs.length)) (Tr.chk (shOk [Sk.str, Sk.sl 5] (xs.getD i3.toNat [])) (Tr.br (decide (100 < (↑((xs.getD i3.toNat []).headD C.pnil).st.length : Int))) (Tr.leaf (R.x x29_0x0)) (Tr.chk (decide (0 ≤ i3)) (Tr.chk true (Tr.chk (decide (i3.toNat < xs.length)) (Tr.chk (shOk [Sk.str, Sk.sl 5] (xs.getD i3.toNat [])) (Tr.chk (isRows ((xs.getD i3.toNat []).tail.headD C.pnil).xs) (Tr.br (!shortR (toRows ((xs.getD i3.toNat []).tail.headD C.pnil).xs)) (Tr.leaf (R.x x29_0x0)) (Tr.leaf (R.s (s29_0 nl tt xs (IntKind.i64.wrap (i3 + 1)))))))))))))))) (Tr.leaf (R.x (x29_0x1 nl tt xs i3)))) := by kernel_rfl
theorem k29_0x0 : p29.fkx 0 x29_0x0 = (Tr.leaf (R.out [V.c (C.bool false)] [])) := by kernel_rfl
theorem k29_0x1 (nl : OBo) (tt : Bool) (xs : LLC) (i3 : Int) : p29.fkx 0 (x29_0x1 nl tt xs i3) = (Tr.leaf (R.out [V.c (C.bool true)] [])) := by kernel_rfl
theorem t29 (nl : OBo) (tt : Bool) (xs : LLC) : p29.ft ([V.c (C.sl 2 nl tt xs)]) ([]) = (Tr.br (decide (60 < (↑xs.length : Int))) (Tr.leaf (R.out [V.c (C.bool false)] [])) (Tr.ls 0 (s29_0 nl tt xs (0)))) := by kernel_rfl
noncomputable abbrev p32 : Par := par E sh (ctOf [(80, s80)]) 32 1 0
theorem t32 (s : Bys) (rn : OBo) (rt : Bool) (xs : LLC) (kn : OBo) (kt : Bool) (ys : LLC) : p32.ft ([V.agg [V.c (C.str s), V.c (C.sl 5 rn rt xs), V.c (C.sl 3 kn kt ys)]]) ([]) = (Tr.chk (isRows xs) (Tr.chk (isL ys) (Tr.br (!okR (Nd.node s (toRows xs) (decL ys))) (Tr.leaf (R.out [V.c (C.int IntKind.i64 2)] [])) (Tr.leaf (R.out [V.c (C.int IntKind.i64 0)] []))))) := by kernel_rfl
end Go.Proofs.YtgaabjmbnomimaaDoor
namespace Go.Proofs.YtgaabjmbnomimaaDoor
open Go Go.Ev
-- cse
def s72 : CSpec := fun a h => match a, h with
  | [.c (.sl 2 nl tt xs)], [] => some ([decide (xs.length < 4294967296)], [.buf 0 0 0 xs.length], [.mem 2 0 xs])
  | _, _ => none
theorem s72_ok : CSpecOk E 72 s72 := fun a h cs vals h' he hc => by
  unfold s72 at he
  split at he <;> simp only [Option.some.injEq, Prod.mk.injEq, reduceCtorEq] at he
  rename_i nl tt xs
  obtain ⟨rfl, rfl, rfl⟩ := he
  simp only [allT, Bool.and_true, decide_eq_true_eq] at hc
  exact call_ext (f := x72) rfl (by simp only [x72, if_pos hc])
def s73 : CSpec := fun a h => match a, h with
  | [.buf 0 0 0 len, .fn 74 []], [.mem 2 0 xs] => some ([isEnts xs, decide (len = xs.length), decide (xs.length < 4294967296)], [], [.mem 2 0 (sortX xs)])
  | _, _ => none
theorem s73_ok : CSpecOk E 73 s73 := fun a h cs vals h' he hc => by
  unfold s73 at he
  split at he <;> simp only [Option.some.injEq, Prod.mk.injEq, reduceCtorEq] at he
  rename_i len xs
  obtain ⟨rfl, rfl, rfl⟩ := he
  simp only [allT, Bool.and_true, Bool.and_eq_true, decide_eq_true_eq] at hc
  exact call_ext (f := x73) rfl (by simp only [x73]; exact if_pos hc)
noncomputable abbrev p30 : Par := par E sh (ctOf [(65, s65 25), (71, s71), (72, s72), (73, s73)]) 30 1 0
abbrev s30_0 (n5 : Nat) (n17 : Nat) (i18 : Int) (i19 : Int) (sh0 : Bys) (nlh0 : OBo) (th0 : Bool) (xsh0 : LLC) (nlh0_1 : OBo) (th0_1 : Bool) (xsh0_1 : LLC) (ys1 : LLC) (sh2 : Bys) (nlh2 : OBo) (th2 : Bool) (xsh2 : LLC) (nlh2_1 : OBo) (th2_1 : Bool) (xsh2_1 : LLC) : Fr × Hp := ([(2, V.ptr 0 0 0 0), (5, V.buf 1 0 0 n5), (6, V.ptr 2 0 0 0), (17, V.buf 1 0 0 n17), (18, V.c (C.int IntKind.i64 i18)), (19, V.c (C.int IntKind.i64 i19))], [O.box [V.c (C.str sh0), V.c (C.sl 5 nlh0 th0 xsh0), V.c (C.sl 3 nlh0_1 th0_1 xsh0_1)], O.mem 2 0 ys1, O.box [V.c (C.str sh2), V.c (C.sl 5 nlh2 th2 xsh2), V.c (C.sl 3 nlh2_1 th2_1 xsh2_1)]])
noncomputable abbrev b30_0 : Code := loopAt (codeOf E (30)) 0
abbrev x30_0x0 (ys1 : LLC) (sh2 : Bys) (nlh2 : OBo) (th2 : Bool) (xsh2 : LLC) (nlh2_1 : OBo) (th2_1 : Bool) (xsh2_1 : LLC) (sh3 : Bys) (nlh3 : OBo) (xsh3 : LLC) : Ex × Fr × Hp := (Ex.ret, [(2, V.ptr 0 0 0 0), (3, V.c (C.int IntKind.i64 16))], [O.box [V.c (C.str []), V.c (C.sl 5 (some true) true []), V.c (C.sl 3 (some true) true [])], O.mem 2 0 ys1, O.box [V.c (C.str sh2), V.c (C.sl 5 nlh2 th2 xsh2), V.c (C.sl 3 nlh2_1 th2_1 xsh2_1)], O.box [V.c (C.str sh3), V.c (C.sl 5 nlh3 false xsh3)]])
abbrev x30_0x1 (n5 : Nat) (n17 : Nat) (i18 : Int) (i19 : Int) (sh0 : Bys) (nlh0 : OBo) (th0 : Bool) (xsh0 : LLC) (nlh0_1 : OBo) (th0_1 : Bool) (xsh0_1 : LLC) (ys1 : LLC) (sh2 : Bys) (nlh2 : OBo) (th2 : Bool) (xsh2 : LLC) (nlh2_1 : OBo) (th2_1 : Bool) (xsh2_1 : LLC) : Ex × Fr × Hp := (Ex.exit 0, [(2, V.ptr 0 0 0 0), (5, V.buf 1 0 0 n5), (6, V.ptr 2 0 0 0), (17, V.buf 1 0 0 n17), (18, V.c (C.int IntKind.i64 i18)), (19, V.c (C.int IntKind.i64 i19)), (20, V.c (C.bool false))], [O.box [V.c (C.str sh0), V.c (C.sl 5 nlh0 th0 xsh0), V.c (C.sl 3 nlh0_1 th0_1 xsh0_1)], O.mem 2 0 ys1, O.box [V.c (C.str sh2), V.c (C.sl 5 nlh2 th2 xsh2), V.c (C.sl 3 nlh2_1 th2_1 xsh2_1)]])
abbrev c30_0_1 (i19 : Int) (ys1 : LLC) := (List.take 2 (ys1.getD (0 + i19.toNat) []))
abbrev c30_0_2 (i19 : Int) (ys1 : LLC) (sh2 : Bys) (xsh2 : LLC) (xsh2_1 : LLC) := (putN (((c30_0_1 i19 ys1).headD C.pnil).st.length + 1) (Nd.node sh2 (toRows xsh2) (decL xsh2_1)) ((c30_0_1 i19 ys1).headD C.pnil).st (toRows ((c30_0_1 i19 ys1).tail.headD C.pnil).xs))
theorem t30_0 (n5 : Nat) (n17 : Nat) (i18 : Int) (i19 : Int) (sh0 : Bys) (nlh0 : OBo) (th0 : Bool) (xsh0 : LLC) (nlh0_1 : OBo) (th0_1 : Bool) (xsh0_1 : LLC) (ys1 : LLC) (sh2 : Bys) (nlh2 : OBo) (th2 : Bool) (xsh2 : LLC) (nlh2_1 : OBo) (th2_1 : Bool) (xsh2_1 : LLC) : p30.lts b30_0 (s30_0 n5 n17 i18 i19 sh0 nlh0 th0 xsh0 nlh0_1 th0_1 xsh0_1 ys1 sh2 nlh2 th2 xsh2 nlh2_1 th2_1 xsh2_1) = (Tr.br (decide (i19 < i18)) (Tr.chk (decide (0 ≤ i19)) (Tr.chk (decide (i19 < (↑n17 : Int))) (Tr.chk true (Tr.chk true (Tr.chk true (Tr.chk (decide (0 + i19.toNat < ys1.length)) (Tr.chk (decide (2 ≤ (ys1.getD (0 + i19.toNat) []).length)) (Tr.chk (shOk [Sk.str, Sk.sl 5] (c30_0_1 i19 ys1)) (Tr.br (decide (0 < i19)) (Tr.chk (decide (0 ≤ IntKind.i64.wrap (i19 - 1))) (Tr.chk (decide (IntKind.i64.wrap (i19 - 1) < (↑n5 : Int))) (Tr.chk true (Tr.chk true (Tr.chk true (Tr.chk (decide (0 + (IntKind.i64.wrap (i19 - 1)).toNat < ys1.length)) (Tr.chk (decide (0 + (0, 1, false).fst + 1 ≤ (ys1.getD (0 + (IntKind.i64.wrap (i19 - 1)).toNat) []).length)) (Tr.chk (shOk [Sk.str] (List.take 1 (List.drop (0 + (0, 1, false).fst) (ys1.getD (0 + (IntKind.i64.wrap (i19 - 1)).toNat) [])))) (Tr.br (((List.take 1 (List.drop (0 + (0, 1, false).fst) (ys1.getD (0 + (IntKind.i64.wrap (i19 - 1)).toNat) []))).headD C.pnil).st == ((c30_0_1 i19 ys1).headD C.pnil).st) (Tr.leaf (R.x (x30_0x0 ys1 sh2 nlh2 th2 xsh2 nlh2_1 th2_1 xsh2_1 (((c30_0_1 i19 ys1).headD C.pnil).st) (none) (((c30_0_1 i19 ys1).tail.headD C.pnil).xs)))) (Tr.chk (isRows xsh2) (Tr.chk (isL xsh2_1) (Tr.chk (isRows ((c30_0_1 i19 ys1).tail.headD C.pnil).xs) (Tr.chk (okL (decL xsh2_1) 24 (-1)) (Tr.chk (right (toRows xsh2)) (Tr.chk (right (toRows ((c30_0_1 i19 ys1).tail.headD C.pnil).xs)) (Tr.chk (decide (sh2.length ≤ 24)) (Tr.chk true (Tr.chk (decide (((c30_0_1 i19 ys1).headD C.pnil).st.length < 25)) (Tr.chk (decide (((c30_0_1 i19 ys1).headD C.pnil).st.length ≤ 24)) (Tr.leaf (R.s (s30_0 n5 n17 i18 (IntKind.i64.wrap (i19 + 1)) sh0 nlh0 th0 xsh0 nlh0_1 th0_1 xsh0_1 ys1 ((c30_0_2 i19 ys1 sh2 xsh2 xsh2_1).lab) (none) false (rows (c30_0_2 i19 ys1 sh2 xsh2 xsh2_1).rows) (none) false (encL (c30_0_2 i19 ys1 sh2 xsh2 xsh2_1).kids))))))))))))))))))))))) (Tr.chk (isRows xsh2) (Tr.chk (isL xsh2_1) (Tr.chk (isRows ((c30_0_1 i19 ys1).tail.headD C.pnil).xs) (Tr.chk (okL (decL xsh2_1) 24 (-1)) (Tr.chk (right (toRows xsh2)) (Tr.chk (right (toRows ((c30_0_1 i19 ys1).tail.headD C.pnil).xs)) (Tr.chk (decide (sh2.length ≤ 24)) (Tr.chk true (Tr.chk (decide (((c30_0_1 i19 ys1).headD C.pnil).st.length < 25)) (Tr.chk (decide (((c30_0_1 i19 ys1).headD C.pnil).st.length ≤ 24)) (Tr.leaf (R.s (s30_0 n5 n17 i18 (IntKind.i64.wrap (i19 + 1)) sh0 nlh0 th0 xsh0 nlh0_1 th0_1 xsh0_1 ys1 ((c30_0_2 i19 ys1 sh2 xsh2 xsh2_1).lab) (none) false (rows (c30_0_2 i19 ys1 sh2 xsh2 xsh2_1).rows) (none) false (encL (c30_0_2 i19 ys1 sh2 xsh2 xsh2_1).kids))))))))))))))))))))))) (Tr.leaf (R.x (x30_0x1 n5 n17 i18 i19 sh0 nlh0 th0 xsh0 nlh0_1 th0_1 xsh0_1 ys1 sh2 nlh2 th2 xsh2 nlh2_1 th2_1 xsh2_1)))) := by kernel_rfl
theorem k30_0x0 (ys1 : LLC) (sh2 : Bys) (nlh2 : OBo) (th2 : Bool) (xsh2 : LLC) (nlh2_1 : OBo) (th2_1 : Bool) (xsh2_1 : LLC) (sh3 : Bys) (nlh3 : OBo) (xsh3 : LLC) : p30.fkx 0 (x30_0x0 ys1 sh2 nlh2 th2 xsh2 nlh2_1 th2_1 xsh2_1 sh3 nlh3 xsh3) = (Tr.leaf (R.out [V.agg [V.c (C.str []), V.c (C.sl 5 none false []), V.c (C.sl 3 none false [])], V.c (C.int IntKind.i64 16)] [])) := by kernel_rfl
theorem k30_0x1 (n5 : Nat) (n17 : Nat) (i18 : Int) (i19 : Int) (sh0 : Bys) (nlh0 : OBo) (th0 : Bool) (xsh0 : LLC) (nlh0_1 : OBo) (th0_1 : Bool) (xsh0_1 : LLC) (ys1 : LLC) (sh2 : Bys) (nlh2 : OBo) (th2 : Bool) (xsh2 : LLC) (nlh2_1 : OBo) (th2_1 : Bool) (xsh2_1 : LLC) : p30.fkx 0 (x30_0x1 n5 n17 i18 i19 sh0 nlh0 th0 xsh0 nlh0_1 th0_1 xsh0_1 ys1 sh2 nlh2 th2 xsh2 nlh2_1 th2_1 xsh2_1) = (Tr.leaf (R.out [V.agg [V.c (C.str sh2), V.c (C.sl 5 none false xsh2), V.c (C.sl 3 none false xsh2_1)], V.c (C.int IntKind.i64 0)] [])) := by kernel_rfl
theorem t30 (nl : OBo) (tt : Bool) (xs : LLC) : p30.ft ([V.c (C.sl 2 nl tt xs)]) ([]) = (Tr.chk (isEs xs) (Tr.chk (decide (xs.length ≤ 9223372036854775807)) (Tr.br (!(toEs xs).all goodE) (Tr.leaf (R.out [V.agg [V.c (C.str []), V.c (C.sl 5 none false []), V.c (C.sl 3 none false [])], V.c (C.int IntKind.i64 2)] [])) (Tr.chk (decide (xs.length < 4294967296)) (Tr.chk (isEnts xs) (Tr.chk (decide (xs.length = xs.length)) (Tr.chk (decide (xs.length < 4294967296)) (Tr.chk true (Tr.ls 0 (s30_0 (xs.length) (xs.length) ((↑xs.length : Int)) (0) ([]) (some true) true ([]) (some true) true ([]) (sortX xs) ([]) (some true) true ([]) (some true) true ([]))))))))))) := by kernel_rfl
end Go.Proofs.YtgaabjmbnomimaaDoor
namespace Go.Proofs.YtgaabjmbnomimaaDoor
open Go Go.Ev
abbrev pthsE (l : List Ent) : List (List UInt8) := l.map Prod.fst
def insA (E : List Ent) (l : List Ent) : List Ent := l.foldl (fun E e => insE E e.1 e.2) E
theorem insE_rise {E : List Ent} {p : List UInt8} {r : List Row} (h : Rise E) : Rise (insE E p r) := by
  induction E with
  | nil => rw [insE]; split <;> simp
  | cons e l ih =>
    rw [Rise, List.pairwise_cons] at h
    rw [insE]
    by_cases c1 : Op.bytesLess e.1 p = true
    · rw [if_pos c1, Rise, List.pairwise_cons]
      refine ⟨fun x hx => ?_, ih h.2⟩
      rcases insE_mem hx with hx | ⟨rfl, _⟩
      · exact h.1 x hx
      · exact c1
    · rw [if_neg c1]
      by_cases c2 : e.1 = p
      · rw [if_pos c2]
        split
        · exact h.2
        · rw [Rise, List.pairwise_cons]
          exact ⟨fun x hx => by rw [← c2]; exact h.1 x hx, h.2⟩
      · rw [if_neg c2]
        split
        · exact List.pairwise_cons.2 h
        · have hgt := bl_gt (by simpa using c1) c2
          rw [Rise, List.pairwise_cons]
          refine ⟨fun x hx => ?_, List.pairwise_cons.2 h⟩
          rcases List.mem_cons.1 hx with rfl | hx
          · exact hgt
          · exact bl_trans hgt (h.1 x hx)
theorem insE_paths {E : List Ent} {p q : List UInt8} {r : List Row} (h : Rise E) (hn : Rne E) (hr : r ≠ []) : q ∈ pthsE (insE E p r) ↔ q = p ∨ q ∈ pthsE E := by
  have hi := insE_rise (p := p) (r := r) h
  have hin : Rne (insE E p r) := fun e he => by
    rcases insE_mem he with he | ⟨rfl, k⟩
    · exact hn e he
    · exact k
  have key : ∀ {F : List Ent}, Rise F → Rne F → (q ∈ pthsE F ↔ look F q ≠ []) := fun {F} hF nF => by
    constructor
    · intro hq
      obtain ⟨e, he, rfl⟩ := List.mem_map.1 hq
      rw [look_in hF he]; exact nF e he
    · intro k
      obtain ⟨e, he, hp⟩ := look_ex k
      exact List.mem_map.2 ⟨e, he, hp⟩
  rw [key hi hin, key h hn, look_ins h]
  by_cases c : q = p
  · rw [if_pos c]; simp [c, hr]
  · rw [if_neg c]; simp [c]
theorem insE_len {E : List Ent} {p : List UInt8} {r : List Row} (h : Rise E) (hr : r ≠ []) : (insE E p r).length = E.length + (if p ∈ pthsE E then 0 else 1) := by
  induction E with
  | nil => rw [insE, if_neg hr]; simp
  | cons e l ih =>
    rw [Rise, List.pairwise_cons] at h
    rw [insE]
    by_cases c1 : Op.bytesLess e.1 p = true
    · rw [if_pos c1, List.length_cons, ih h.2]
      have hne : p ≠ e.1 := fun k => bl_ne c1 k.symm
      simp only [pthsE, List.map_cons, List.mem_cons, hne, false_or, List.length_cons]
      split <;> omega
    · rw [if_neg c1]
      by_cases c2 : e.1 = p
      · rw [if_pos c2, if_neg hr]; simp [pthsE, c2]
      · rw [if_neg c2, if_neg hr]
        have hgt := bl_gt (by simpa using c1) c2
        have hno : p ∉ pthsE (e :: l) := fun hm => by
          obtain ⟨x, hx, hp⟩ := List.mem_map.1 hm
          rcases List.mem_cons.1 hx with rfl | hx
          · exact c2 hp
          · exact bl_ne (bl_trans hgt (h.1 x hx)) hp.symm
        rw [if_neg hno]; simp
structure Acc (E : List Ent) : Prop where
  rise : Rise E
  rne : Rne E
theorem Acc.nil : Acc [] := ⟨.nil, by simp⟩
theorem Acc.ins {E : List Ent} (h : Acc E) (p : Bys) {r : List Row} (hr : r ≠ []) : Acc (insE E p r) := ⟨insE_rise h.rise, fun e he => by
  rcases insE_mem he with he | ⟨rfl, k⟩
  · exact h.rne e he
  · exact k⟩
theorem insA_acc : ∀ {l E : List Ent}, Acc E → Rne l → Acc (insA E l)
  | [], _, h, _ => h
  | e :: l, E, h, hn => insA_acc (l := l) (h.ins e.1 (hn e (by simp))) fun x hx => hn x (by simp [hx])
theorem insA_len : ∀ {l E : List Ent}, Acc E → Rne l → (insA E l).length ≤ E.length + l.length ∧ ((insA E l).length = E.length + l.length ↔ (∀ e ∈ l, e.1 ∉ pthsE E) ∧ (pthsE l).Nodup)
  | [], E, h, _ => by simp [insA]
  | e :: l, E, h, hn => by
    have hr := hn e (by simp)
    obtain ⟨i1, i2⟩ := insA_len (l := l) (h.ins e.1 hr) fun x hx => hn x (by simp [hx])
    have hlen := insE_len (p := e.1) (r := e.2) h.rise hr
    have hgo : insA E (e :: l) = insA (insE E e.1 e.2) l := rfl
    have hp := fun q => insE_paths (p := e.1) (q := q) (r := e.2) h.rise h.rne hr
    rw [hgo, List.length_cons]
    by_cases c : e.1 ∈ pthsE E
    · rw [if_pos c] at hlen
      refine ⟨by omega, ⟨fun k => by omega, fun k => absurd c (k.1 e (by simp))⟩⟩
    · rw [if_neg c] at hlen
      refine ⟨by omega, ?_⟩
      have e1 : (insA (insE E e.1 e.2) l).length = E.length + (l.length + 1) ↔ (insA (insE E e.1 e.2) l).length = (insE E e.1 e.2).length + l.length := by omega
      rw [e1, i2]
      simp only [hp, pthsE, List.map_cons, List.nodup_cons, List.mem_cons, forall_eq_or_imp, not_or]
      constructor
      · rintro ⟨k1, k2⟩
        refine ⟨⟨c, fun x hx => (k1 x hx).2⟩, ⟨fun hm => ?_, k2⟩⟩
        obtain ⟨x, hx, hxe⟩ := List.mem_map.1 hm
        exact (k1 x hx).1 hxe
      · rintro ⟨⟨_, k1⟩, k2, k3⟩
        exact ⟨fun x hx => ⟨fun hxe => k2 (List.mem_map.2 ⟨x, hx, hxe⟩), k1 x hx⟩, k3⟩
theorem insA_look : ∀ {l E : List Ent} {q : List UInt8}, Acc E → Rne l → (pthsE l).Nodup → look (insA E l) q = if look l q = [] then look E q else look l q
  | [], E, q, _, _, _ => by simp [insA, look]
  | e :: l, E, q, h, hn, hd => by
    have hr := hn e (by simp)
    have hd' : e.1 ∉ pthsE l ∧ (pthsE l).Nodup := List.nodup_cons.1 hd
    have hgo : insA E (e :: l) = insA (insE E e.1 e.2) l := rfl
    rw [hgo, insA_look (h.ins e.1 hr) (fun x hx => hn x (by simp [hx])) hd'.2, look_ins h.rise, look]
    by_cases c : e.1 = q
    · subst c
      have : look l e.1 = [] := look_none fun x hx hp => hd'.1 (List.mem_map.2 ⟨x, hx, hp⟩)
      rw [this]; simp [hr]
    · have c2 : ¬ q = e.1 := fun k => c k.symm
      simp only [if_neg c2, if_neg c]
theorem look_perm {l m : List Ent} (h : l.Perm m) (hd : (pthsE l).Nodup) (q : Bys) : look l q = look m q := by
  have key : ∀ {F : List Ent}, (pthsE F).Nodup → ∀ e ∈ F, look F e.1 = e.2 := fun {F} => by
    induction F with
    | nil => intro _ e he; cases he
    | cons a r ih =>
      intro hF e he
      have hF' : a.1 ∉ pthsE r ∧ (pthsE r).Nodup := List.nodup_cons.1 hF
      rw [look]
      rcases List.mem_cons.1 he with rfl | he
      · rw [if_pos rfl]
      · rw [if_neg (fun k => hF'.1 (List.mem_map.2 ⟨e, he, k.symm⟩)), ih hF'.2 e he]
  have hm : (pthsE m).Nodup := ((h.map Prod.fst).nodup_iff).1 hd
  by_cases c : ∃ e ∈ l, e.1 = q
  · obtain ⟨e, he, rfl⟩ := c
    rw [key hd e he, key hm e (h.mem_iff.1 he)]
  · rw [look_none fun e he k => c ⟨e, he, k⟩, look_none fun e he k => c ⟨e, h.mem_iff.2 he, k⟩]
theorem insA_perm {l m : List Ent} (h : l.Perm m) (hn : Rne l) (hd : (pthsE l).Nodup) : insA [] l = insA [] m := by
  have hm : (pthsE m).Nodup := ((h.map Prod.fst).nodup_iff).1 hd
  have hmn : Rne m := fun e he => hn e (h.mem_iff.2 he)
  have a1 := insA_acc Acc.nil hn
  have a2 := insA_acc Acc.nil hmn
  refine rise_ext a1.rise a2.rise a1.rne a2.rne fun q => ?_
  rw [insA_look Acc.nil hn hd, insA_look Acc.nil hmn hm, look_perm h hd q]
def putA (t : Nd) (l : List Ent) : Nd := l.foldl (fun t e => putR t e.1 e.2) t
theorem goodE_iff {e : Ent} : goodE e = true ↔ isPath e.1 = true ∧ e.2 ≠ [] ∧ right e.2 = true := by
  simp [goodE, and_assoc]
theorem good_rne {l : List Ent} (h : l.all goodE = true) : Rne l := fun e he => (goodE_iff.1 (List.all_eq_true.1 h e he)).2.1
theorem putA_ent : ∀ {l : List Ent} {t : Nd}, okR t = true → l.all goodE = true → okR (putA t l) = true ∧ entR (putA t l) = insA (entR t) l
  | [], t, h, _ => ⟨h, rfl⟩
  | e :: l, t, h, hg => by
    rw [List.all_cons, Bool.and_eq_true] at hg
    obtain ⟨g1, g2, g3⟩ := goodE_iff.1 hg.1
    obtain ⟨p1, p2⟩ := isPath_iff.1 g1
    obtain ⟨k1, k2⟩ := putR_ok h p1 p2 g3
    obtain ⟨i1, i2⟩ := putA_ent (l := l) k1 hg.2
    refine ⟨i1, ?_⟩
    show entR (putA (putR t e.1 e.2) l) = _
    rw [i2, k2]; rfl
def sortE (l : List Ent) : List Ent := toEs (sortX (ents l))
theorem isEnts_ents (l : List Ent) : isEnts (ents l) = true := by simp [isEnts, ents, ee_ok]
theorem sortX_ents (l : List Ent) (h : l.length < 4611686018427387904) : sortX (ents l) = ents (sortE l) := by
  have hp := sortX_perm (ents l) (by rw [ents_length]; exact h)
  have : isEs (sortX (ents l)) = true := by
    unfold isEs
    rw [List.all_eq_true]
    intro x hx
    exact List.all_eq_true.1 (isEs_ents l) x (hp.mem_iff.1 hx)
  obtain ⟨m, hm⟩ := ents_ex this
  unfold sortE
  rw [hm, toEs_ents]
theorem sortE_perm (l : List Ent) (h : l.length < 4611686018427387904) : (sortE l).Perm l := by
  have hp := (sortX_perm (ents l) (by rw [ents_length]; exact h)).map dE
  have : List.map dE (ents l) = l := toEs_ents l
  rw [this] at hp
  exact hp
theorem sortE_le (l : List Ent) (h : l.length < 4611686018427387904) : (sortE l).Pairwise fun a b => Op.bytesLess b.1 a.1 = false := by
  have hs := (sortT_spec (tagE 0 (ents l)) (by rw [tagE_len, ents_length]; exact h))
  unfold sortE toEs sortX
  rw [List.map_map, List.pairwise_map]
  refine hs.2.imp_of_mem fun {a b} ha hb hab => ?_
  obtain ⟨h1, h2⟩ := tagE_mem (hs.1.mem_iff.1 ha)
  obtain ⟨h3, h4⟩ := tagE_mem (hs.1.mem_iff.1 hb)
  have e1 : ∀ (t : Tg) (hh : t.2 < (ents l).length), t.1 = ((ents l)[t.2].headD .pnil).st → (dE ((ents l).getD t.2 [])).1 = t.1 := fun t hh he => by
    rw [he, List.getD_eq_getElem?_getD, List.getElem?_eq_getElem hh]; rfl
  show Op.bytesLess (dE ((ents l).getD b.2 [])).1 (dE ((ents l).getD a.2 [])).1 = false
  rw [e1 a h1 h2, e1 b h3 h4]
  exact hab
theorem rise_nodup {l : List Ent} (h : Rise l) : (pthsE l).Nodup := by
  unfold pthsE
  rw [List.nodup_iff_pairwise_ne, List.pairwise_map]
  exact h.imp fun h => bl_ne h
def bldT (l : List Ent) : Nd := putA nd0 (sortE l)
def bldP (l : List Ent) : Nd × Int := if l.all goodE = true then (if (pthsE l).Nodup then (bldT l, 0) else (nd0, 16)) else (nd0, 2)
theorem all_perm {l m : List Ent} (h : l.Perm m) {f : Ent → Bool} (k : l.all f = true) : m.all f = true := by
  rw [List.all_eq_true] at k ⊢
  exact fun e he => k e (h.mem_iff.2 he)
theorem bldT_ent {l : List Ent} (h : l.all goodE = true) (hl : l.length < 4611686018427387904) (hd : (pthsE l).Nodup) : okR (bldT l) = true ∧ entR (bldT l) = insA [] l := by
  have hp := sortE_perm l hl
  obtain ⟨k1, k2⟩ := putA_ent (t := nd0) nd0_ok (all_perm hp.symm h)
  refine ⟨k1, k2.trans ?_⟩
  exact (insA_perm hp.symm (good_rne h) hd).symm
theorem insQ_put : ∀ {x : List Ent} {e : Ent}, (∀ a ∈ x, Op.bytesLess e.1 a.1 = true) → insQ true e x = x
  | [], _, _ => rfl
  | a :: r, e, h => by
    have h1 := h a (by simp)
    have hne : (a.1 == e.1) = false := by rw [beq_eq_false_iff_ne]; exact fun k => bl_ne h1 k.symm
    rw [insQ, hne]
    simp only [Bool.not_true, Bool.false_and, cond_false, List.nil_append, Bool.true_or, List.singleton_append]
    rw [insQ_put fun b hb => h b (by simp [hb])]
theorem insQ_insE {e : Ent} (hr : e.2 ≠ []) : ∀ {x : List Ent}, Rise x → insQ false e x = insE x e.1 e.2
  | [], _ => by rw [insE, if_neg hr]; rfl
  | a :: r, h => by
    rw [Rise, List.pairwise_cons] at h
    rw [insQ, insE]
    cases c : Op.bytesLess a.1 e.1 with
    | true =>
      have hne : (a.1 == e.1) = false := by rw [beq_eq_false_iff_ne]; exact bl_ne c
      rw [hne, if_pos rfl]
      simp only [Bool.not_true, Bool.and_false, cond_false, List.nil_append, Bool.or_false, List.singleton_append]
      rw [insQ_insE hr h.2]
    | false =>
      rw [if_neg (by simp)]
      have hgt : ∀ b ∈ r, Op.bytesLess e.1 b.1 = true := fun b hb => by
        cases d : Op.bytesLess e.1 a.1 with
        | true => exact bl_trans d (h.1 b hb)
        | false => rw [← bl_total _ _ c d]; exact h.1 b hb
      simp only [Bool.not_false, Bool.and_self, cond_true, Bool.false_or]
      rw [insQ_put hgt]
      by_cases d : a.1 = e.1
      · rw [if_pos d, if_neg hr, beq_iff_eq.2 d]; rfl
      · rw [if_neg d, if_neg hr, beq_eq_false_iff_ne.2 d]; rfl
mutual
theorem leftT_cnt : ∀ (t : Nd) (n d : Int), 0 ≤ n → 0 < leftT t n d → (countT t : Int) ≤ n - leftT t n d
  | .node lab rs ks, n, d, h0, h => by
    rw [leftT] at h ⊢
    split at h
    · omega
    · rename_i hc
      rw [if_neg hc]
      have := leftL_cnt ks (n - 1 - ((lab.length / 50 : Nat) : Int)) (d - 1) (by omega) h
      rw [countT]; omega
theorem leftL_cnt : ∀ (l : List Nd) (n d : Int), 0 ≤ n → 0 < leftL l n d → (countL l : Int) ≤ n - leftL l n d
  | [], n, d, h0, h => by rw [leftL, countL]; simp
  | t :: r, n, d, h0, h => by
    rw [leftL] at h ⊢
    split at h
    · rename_i hn
      rw [if_pos hn]
      have hle := leftT_le t n d h0
      have hpos : 0 < leftT t n d := by
        have := (leftL_le r (leftT t n d) d hle.1).2; omega
      have h1 := leftT_cnt t n d h0 hpos
      have h2 := leftL_cnt r (leftT t n d) d hle.1 h
      rw [countL]
      omega
    · omega
end
end Go.Proofs.YtgaabjmbnomimaaDoor
namespace Go.Proofs.YtgaabjmbnomimaaDoor
open Go Go.Ev
theorem f70 (p : Bys) (rn : OBo) (rt : Bool) (rs : List Row) : call E 70 [.agg [.c (.str p), .c (.sl 5 rn rt (rows rs))]] [] = some ([V.b (!goodE (p, rs))], []) := by
  refine call_of (E := E) (sh := sh) (ct := ctOf [(63, s63), (64, s64)]) (na := 1) (m := 0) (ctOf_cons s63_ok (ctOf_cons s64_ok ctOf_nil)) rfl rfl rfl rfl rfl rfl ?_
  rw [t70]
  simp only [ld_br, ld_chk', ld_leaf, fd_br, fd_chk', fd_leaf, decide_true, decide_eq_true_eq, if_true, Int.toNat_natCast, Int.natCast_nonneg, Int.ofNat_lt, Int.ofNat_le, Bool.false_eq_true, if_false, bne_iff_ne, beq_iff_eq, ne_eq, not_true_eq_false, not_false_eq_true, Bool.not_eq_true', decide_eq_false_iff_not, reduceCtorEq, rows_length, pcs_length, er_ok, er_ok', ep_ok, ep_ok', dr_er, dp_ep, isRows_rows, isPcs_pcs, toRows_rows, toPcs_pcs, rows_take, rows_drop, pcs_take, pcs_drop, rows_append, pcs_append, ints_length, isInts_ints, toInts_ints, ei_i, ei_ok, mk_headD, ints_take, ints_drop, ints_append, ints_snoc, ints_snoc', List.take_length, Nat.zero_add, Nat.le_refl, er_a, er_b, er_k, er_n, er_s, er_v, ep_a, ep_b, ep_hk, ep_hn, ep_hs, ep_wk, ep_wn, ep_ws, checkR_ne, goodE]
  have hz : ((rs.length : Int) = 0) ↔ rs = [] := by rw [← List.length_eq_zero_iff]; omega
  cases isPath p <;> by_cases h : rs = [] <;> simp [h, hz]
theorem s70_ok : CSpecOk E 70 s70 := by
  intro a h cs vals h' he hc
  unfold s70 at he
  split at he <;> simp only [Option.some.injEq, Prod.mk.injEq, reduceCtorEq] at he
  rename_i p rn rt xs
  obtain ⟨rfl, rfl, rfl⟩ := he
  simp only [allT, Bool.and_true, Bool.and_eq_true, decide_eq_true_eq] at hc
  obtain ⟨rs, rfl⟩ := rows_ex hc
  rw [toRows_rows]
  exact f70 p rn rt rs
theorem idxE_drop (f : Ent → Bool) {l : List Ent} {k : Nat} (j : Nat) (hk : k < l.length) : idxE f (l.drop k) j = if f l[k] = true then (j : Int) else idxE f (l.drop (k + 1)) (j + 1) := by
  rw [List.drop_eq_getElem_cons hk, idxE]
theorem f126 (nl : OBo) (tt : Bool) (l : List Ent) (hl : l.length ≤ 9223372036854775807) : call E 126 [.c (.sl 2 nl tt (ents l)), .fn 70 []] [] = some ([V.i (idxE (fun e => !goodE e) l 0)], []) := by
  have hct : (ctOf [(70, s70)]).ok E := ctOf_cons s70_ok ctOf_nil
  refine call_of (E := E) (sh := sh) (ct := ctOf [(70, s70)]) (na := 2) (m := 0) hct rfl rfl rfl rfl rfl rfl ?_
  rw [t126, ents_length]
  refine fd_post hct (by kernel_rfl) rfl (list_post (p := p126) hct (b := b126_0) l.length (fun k (_ : Unit) => s126_0 nl tt (ents l) l.length k) (fun k _ => idxE (fun e => !goodE e) (l.drop k) k = idxE (fun e => !goodE e) l 0) _ ?_ ?_ 0 (Nat.zero_le _) () rfl)
  · intro k _ hk hi
    rw [idxE_drop _ _ hk] at hi
    have go : p126.ld b126_0 (p126.lts b126_0 (s126_0 nl tt (ents l) l.length k)) = if (!goodE l[k]) = true then some (R.x (x126_0x0 k)) else some (R.s (s126_0 nl tt (ents l) l.length ((k + 1 : Nat) : Int))) := by
      rw [t126_0]
      have he : (l[k].1, l[k].2) = l[k] := rfl
      simp only [ld_br, ld_chk', ld_leaf, fd_br, fd_chk', fd_leaf, decide_true, decide_eq_true_eq, if_true, Int.toNat_natCast, Int.natCast_nonneg, Int.ofNat_lt, Int.ofNat_le, Bool.false_eq_true, if_false, bne_iff_ne, beq_iff_eq, ne_eq, not_true_eq_false, not_false_eq_true, Bool.not_eq_true', decide_eq_false_iff_not, reduceCtorEq, rows_length, pcs_length, er_ok, er_ok', ep_ok, ep_ok', dr_er, dp_ep, isRows_rows, isPcs_pcs, toRows_rows, toPcs_pcs, rows_take, rows_drop, pcs_take, pcs_drop, rows_append, pcs_append, ints_length, isInts_ints, toInts_ints, ei_i, ei_ok, mk_headD, ints_take, ints_drop, ints_append, ints_snoc, ints_snoc', List.take_length, Nat.zero_add, Nat.le_refl, er_a, er_b, er_k, er_n, er_s, er_v, ep_a, ep_b, ep_hk, ep_hn, ep_hs, ep_wk, ep_wn, ep_ws, ents_length, hk, ents_getD hk, ee_ok, ee_p, ee_r, he, wrap_succ (show k < 9223372036854775807 by omega)]
    cases c : goodE l[k] with
    | true =>
      rw [c] at hi go
      exact .inl ⟨(), by simpa using hi, by rw [go]; rfl⟩
    | false =>
      rw [c] at hi go
      refine .inr ⟨x126_0x0 k, by simp, ?_, by rw [go]; rfl⟩
      rw [k126_0x0, fd_leaf, ← hi]; rfl
  · intro _ hi
    rw [List.drop_length] at hi
    refine ⟨x126_0x1 nl tt (ents l) l.length l.length, by simp, by rw [k126_0x1, fd_leaf, ← hi]; rfl, ?_⟩
    rw [t126_0]
    simp only [ld_br, ld_chk', ld_leaf, fd_br, fd_chk', fd_leaf, decide_true, decide_eq_true_eq, if_true, Int.toNat_natCast, Int.natCast_nonneg, Int.ofNat_lt, Int.ofNat_le, Bool.false_eq_true, if_false, bne_iff_ne, beq_iff_eq, ne_eq, not_true_eq_false, not_false_eq_true, Bool.not_eq_true', decide_eq_false_iff_not, reduceCtorEq, rows_length, pcs_length, er_ok, er_ok', ep_ok, ep_ok', dr_er, dp_ep, isRows_rows, isPcs_pcs, toRows_rows, toPcs_pcs, rows_take, rows_drop, pcs_take, pcs_drop, rows_append, pcs_append, ints_length, isInts_ints, toInts_ints, ei_i, ei_ok, mk_headD, ints_take, ints_drop, ints_append, ints_snoc, ints_snoc', List.take_length, Nat.zero_add, Nat.le_refl, er_a, er_b, er_k, er_n, er_s, er_v, ep_a, ep_b, ep_hk, ep_hn, ep_hs, ep_wk, ep_wn, ep_ws, Int.lt_irrefl]
theorem s126_ok : CSpecOk E 126 s126 := by
  intro a h cs vals h' he hc
  unfold s126 at he
  split at he <;> simp only [Option.some.injEq, Prod.mk.injEq, reduceCtorEq] at he
  rename_i nl tt xs
  obtain ⟨rfl, rfl, rfl⟩ := he
  simp only [allT, Bool.and_true, Bool.and_eq_true, decide_eq_true_eq] at hc
  obtain ⟨h1, h2⟩ := hc
  obtain ⟨l, rfl⟩ := ents_ex h1
  rw [ents_length] at h2
  rw [toEs_ents]
  exact f126 nl tt l h2
theorem idxE_all (f : Ent → Bool) (l : List Ent) (j : Nat) : decide (0 ≤ idxE (fun e => !f e) l j) = !l.all f := by
  induction l generalizing j with
  | nil => rfl
  | cons t r ih =>
    rw [idxE, List.all_cons]
    cases c : f t with
    | true => simpa using ih (j + 1)
    | false => simp
theorem f71 (nl : OBo) (tt : Bool) (l : List Ent) (hl : l.length ≤ 9223372036854775807) : call E 71 [.c (.sl 2 nl tt (ents l)), .fn 70 []] [] = some ([V.b (!l.all goodE)], []) := by
  refine call_of (E := E) (sh := sh) (ct := ctOf [(126, s126)]) (na := 2) (m := 0) (ctOf_cons s126_ok ctOf_nil) rfl rfl rfl rfl rfl rfl ?_
  rw [t71]
  simp only [ld_br, ld_chk', ld_leaf, fd_br, fd_chk', fd_leaf, decide_true, decide_eq_true_eq, if_true, Int.toNat_natCast, Int.natCast_nonneg, Int.ofNat_lt, Int.ofNat_le, Bool.false_eq_true, if_false, bne_iff_ne, beq_iff_eq, ne_eq, not_true_eq_false, not_false_eq_true, Bool.not_eq_true', decide_eq_false_iff_not, reduceCtorEq, rows_length, pcs_length, er_ok, er_ok', ep_ok, ep_ok', dr_er, dp_ep, isRows_rows, isPcs_pcs, toRows_rows, toPcs_pcs, rows_take, rows_drop, pcs_take, pcs_drop, rows_append, pcs_append, ints_length, isInts_ints, toInts_ints, ei_i, ei_ok, mk_headD, ints_take, ints_drop, ints_append, ints_snoc, ints_snoc', List.take_length, Nat.zero_add, Nat.le_refl, er_a, er_b, er_k, er_n, er_s, er_v, ep_a, ep_b, ep_hk, ep_hn, ep_hs, ep_wk, ep_wn, ep_ws, ents_length, isEs_ents, toEs_ents, hl, idxE_all goodE]
theorem s71_ok : CSpecOk E 71 s71 := by
  intro a h cs vals h' he hc
  unfold s71 at he
  split at he <;> simp only [Option.some.injEq, Prod.mk.injEq, reduceCtorEq] at he
  rename_i nl tt xs
  obtain ⟨rfl, rfl, rfl⟩ := he
  simp only [allT, Bool.and_true, Bool.and_eq_true, decide_eq_true_eq] at hc
  obtain ⟨h1, h2⟩ := hc
  obtain ⟨l, rfl⟩ := ents_ex h1
  rw [ents_length] at h2
  rw [toEs_ents]
  exact f71 nl tt l h2
theorem f76 (p : Bys) : call E 76 [.c (.str p)] [] = some ([V.b (isPath p)], []) := by
  refine call_of (E := E) (sh := sh) (ct := ctOf []) (na := 1) (m := 0) ctOf_nil rfl rfl rfl rfl rfl rfl ?_
  rw [t76]
  simp only [ld_br, ld_chk', ld_leaf, fd_br, fd_chk', fd_leaf, decide_true, decide_eq_true_eq, if_true, Int.toNat_natCast, Int.natCast_nonneg, Int.ofNat_lt, Int.ofNat_le, Bool.false_eq_true, if_false, bne_iff_ne, beq_iff_eq, ne_eq, not_true_eq_false, not_false_eq_true, Bool.not_eq_true', decide_eq_false_iff_not, reduceCtorEq, rows_length, pcs_length, er_ok, er_ok', ep_ok, ep_ok', dr_er, dp_ep, isRows_rows, isPcs_pcs, toRows_rows, toPcs_pcs, rows_take, rows_drop, pcs_take, pcs_drop, rows_append, pcs_append, ints_length, isInts_ints, toInts_ints, ei_i, ei_ok, mk_headD, ints_take, ints_drop, ints_append, ints_snoc, ints_snoc', List.take_length, Nat.zero_add, Nat.le_refl, er_a, er_b, er_k, er_n, er_s, er_v, ep_a, ep_b, ep_hk, ep_hn, ep_hs, ep_wk, ep_wn, ep_ws]
  unfold isPath
  by_cases h : p = []
  · subst h; rfl
  · have h1 := List.length_pos_iff.2 h
    have h2 : (1 : Int) ≤ (p.length : Nat) := by omega
    have h3 : ((p.length : Int) ≤ 24) ↔ (p.length ≤ 24) := by omega
    simp [h, h2, h3]
theorem s76_ok : CSpecOk E 76 s76 := by
  intro a h cs vals h' he hc
  unfold s76 at he
  split at he <;> simp only [Option.some.injEq, Prod.mk.injEq, reduceCtorEq] at he
  obtain ⟨rfl, rfl, rfl⟩ := he
  exact f76 _
theorem hct30 : (ctOf [(65, s65 25), (71, s71), (72, s72), (73, s73)]).ok E := ctOf_cons (s65_ok 25) (ctOf_cons s71_ok (ctOf_cons s72_ok (ctOf_cons s73_ok ctOf_nil)))
theorem ee_take1 (e : Ent) : List.take 1 (List.drop 0 (ee e)) = [C.str e.1] := rfl
theorem ee_take2 (e : Ent) : List.take 2 (ee e) = ee e := rfl
theorem ee_length (e : Ent) : (ee e).length = 2 := rfl
theorem rise_snoc {l : List Ent} {k : Nat} (h : k < l.length) (hr : Rise (l.take k)) (hs : l.Pairwise fun a b => Op.bytesLess b.1 a.1 = false) (hne : ∀ h0 : 0 < k, l[k - 1].1 ≠ l[k].1) : Rise (l.take (k + 1)) := by
  rw [List.take_succ_eq_append_getElem h, Rise, List.pairwise_append]
  refine ⟨hr, by simp, fun a ha b hb => ?_⟩
  simp only [List.mem_singleton] at hb; subst hb
  obtain ⟨j, hj, rfl⟩ := List.mem_iff_getElem.1 ha
  rw [List.length_take] at hj
  rw [List.getElem_take]
  have hjk : j < k := by omega
  have hlast : Op.bytesLess l[k - 1].1 l[k].1 = true := bl_gt (List.pairwise_iff_getElem.1 hs (k - 1) k (by omega) h (by omega)) (fun e => hne (by omega) e.symm)
  rcases Nat.lt_or_ge j (k - 1) with hlt | hge
  · have hjl : Op.bytesLess l[j].1 l[k - 1].1 = true := by
      have := List.pairwise_iff_getElem.1 hr j (k - 1) (by rw [List.length_take]; omega) (by rw [List.length_take]; omega) hlt
      rw [List.getElem_take, List.getElem_take] at this; exact this
    exact bl_trans hjl hlast
  · have : j = k - 1 := by omega
    subst this; exact hlast
theorem f30 (nl : OBo) (tt : Bool) (l : List Ent) (hl : l.length < 4294967290) : call E 30 [.c (.sl 2 nl tt (ents l))] [] = some ([VT (bldP l).1, V.i (bldP l).2], []) := by
  refine call_of (E := E) (sh := sh) (ct := ctOf [(65, s65 25), (71, s71), (72, s72), (73, s73)]) (na := 1) (m := 0) hct30 rfl rfl rfl rfl rfl rfl ?_
  show p30.fd (p30.ft _ _) = _
  rw [t30]
  have h1 : l.length ≤ 9223372036854775807 := by omega
  have h2 : l.length < 4294967296 := by omega
  have h3 : l.length < 4611686018427387904 := by omega
  simp only [fd_br, fd_chk', fd_leaf, if_true, ents_length, isEs_ents, isEnts_ents, toEs_ents, h1, h2, decide_true, sortX_ents l h3, Bool.not_eq_true']
  unfold bldP
  by_cases hg : l.all goodE = false
  · rw [if_pos hg, if_neg (by rw [hg]; simp)]; rfl
  rw [if_neg hg]
  rw [Bool.not_eq_false] at hg
  rw [if_pos hg]
  have hp := sortE_perm l h3
  have hs := sortE_le l h3
  have hgs := all_perm hp.symm hg
  have hlen : (sortE l).length = l.length := hp.length_eq
  have hnd : (pthsE (sortE l)).Nodup ↔ (pthsE l).Nodup := (hp.map Prod.fst).nodup_iff
  rw [← hlen]
  have hl' : (sortE l).length < 4294967290 := by omega
  unfold bldT
  simp only [← hnd]
  generalize sortE l = S at *
  have key : ∃ x, p30.fd (p30.fkx 0 x) = some (.out [VT (if (pthsE S).Nodup then (putA nd0 S, (0 : Int)) else (nd0, 16)).1, V.i (if (pthsE S).Nodup then (putA nd0 S, (0 : Int)) else (nd0, 16)).2] []) ∧ p30.Loops b30_0 (s30_0 S.length S.length S.length 0 [] (some true) true [] (some true) true [] (ents S) [] (some true) true [] (some true) true []) x := by
    refine list_post (p := p30) hct30 (b := b30_0) S.length (fun k (s : Nd × Option Bool × Bool × Option Bool × Bool) => s30_0 S.length S.length S.length k [] (some true) true [] (some true) true [] (ents S) s.1.lab s.2.1 s.2.2.1 (rows s.1.rows) s.2.2.2.1 s.2.2.2.2 (encL s.1.kids))
      (fun k s => s.1 = putA nd0 (S.take k) ∧ Rise (S.take k)) (fun x => p30.fd (p30.fkx 0 x) = _) ?_ ?_ 0 (Nat.zero_le _) (nd0, some true, true, some true, true) ⟨rfl, .nil⟩
    · rintro k ⟨t, rn, rt, kn, kt⟩ hk ⟨ht, hr⟩
      dsimp only at ht ⊢
      have hge := goodE_iff.1 (List.all_eq_true.1 hgs _ (List.getElem_mem hk))
      obtain ⟨g1, g2, g3⟩ := hge
      obtain ⟨q1, q2⟩ := isPath_iff.1 g1
      have hgt : (S.take k).all goodE = true := by
        rw [List.all_eq_true] at hgs ⊢
        exact fun e he => hgs e (List.mem_of_mem_take he)
      have hok : okR t = true := by rw [ht]; exact (putA_ent nd0_ok hgt).1
      obtain ⟨o1, o2, o3⟩ := okR_iff.1 hok
      have hkl : okL t.kids 24 (-1) = true := okL_iff'.2 o3
      have hlab : t.lab.length ≤ 24 := by rw [o1]; simp
      have hrr : right t.rows = true := by rw [o2]; rfl
      have hput : putN (S[k].1.length + 1) t S[k].1 S[k].2 = putR t S[k].1 S[k].2 := rfl
      have hnext : putR t S[k].1 S[k].2 = putA nd0 (S.take (k + 1)) := by
        rw [ht, List.take_succ_eq_append_getElem hk]
        unfold putA
        rw [List.foldl_append]; rfl
      have h0k : 0 + k < S.length := by omega
      have h0e : 0 + k = k := Nat.zero_add k
      have ql : S[k].1.length < 25 := by omega
      by_cases h0 : 0 < k
      · have hk1 : k - 1 < S.length := by omega
        have hw : IntKind.wrap .i64 ((k : Int) - 1) = ((k - 1 : Nat) : Int) := wrap_pred h0 (by omega)
        have h0' : (0 : Int) < (k : Nat) := by omega
        have h0k1 : ((k - 1 : Nat) : Int) < (S.length : Nat) := by omega
        have hle2 : 1 ≤ 2 := by decide
        by_cases he : S[k - 1].1 = S[k].1
        · right
          refine ⟨x30_0x0 (ents S) t.lab rn rt (rows t.rows) kn kt (encL t.kids) S[k].1 none (rows S[k].2), by simp, ?_, ?_⟩
          · have hno : ¬ (pthsE S).Nodup := fun hn => by
              rw [List.nodup_iff_pairwise_ne] at hn
              have := List.pairwise_iff_getElem.1 hn (k - 1) k (by simpa using hk1) (by simpa using hk) (by omega)
              simp only [pthsE, List.getElem_map] at this
              exact this he
            rw [k30_0x0, fd_leaf, if_neg hno]; rfl
          · rw [t30_0]
            simp only [c30_0_1, c30_0_2, nd_ok, nd_lab, nd_rows, nd_kids, encL_length, isL_enc, decL_enc, wrap_hd, hd_pos, ld_br, ld_chk', ld_leaf, fd_br, fd_chk', fd_leaf, decide_true, decide_eq_true_eq, if_true, Int.toNat_natCast, Int.natCast_nonneg, Int.ofNat_lt, Int.ofNat_le, Bool.false_eq_true, if_false, bne_iff_ne, beq_iff_eq, ne_eq, not_true_eq_false, not_false_eq_true, Bool.not_eq_true', decide_eq_false_iff_not, reduceCtorEq, rows_length, pcs_length, er_ok, er_ok', ep_ok, ep_ok', dr_er, dp_ep, isRows_rows, isPcs_pcs, toRows_rows, toPcs_pcs, rows_take, rows_drop, pcs_take, pcs_drop, rows_append, pcs_append, ints_length, isInts_ints, toInts_ints, ei_i, ei_ok, mk_headD, ints_take, ints_drop, ints_append, ints_snoc, ints_snoc', List.take_length, Nat.zero_add, Nat.le_refl, er_a, er_b, er_k, er_n, er_s, er_v, ep_a, ep_b, ep_hk, ep_hn, ep_hs, ep_wk, ep_wn, ep_ws, ents_length, hk, ents_getD hk, ents_getD hk1, hw, h0', hk1, h0k1, ee_take1, ee_take2, ee_length, hle2, str_ok, str_hd, ee_ok, ee_p, ee_r, he, beq_self_eq_true]
        · left
          refine ⟨(putR t S[k].1 S[k].2, none, false, none, false), ⟨hnext, rise_snoc hk hr hs fun _ => he⟩, ?_⟩
          rw [t30_0]
          simp only [c30_0_1, c30_0_2, nd_ok, nd_lab, nd_rows, nd_kids, encL_length, isL_enc, decL_enc, wrap_hd, hd_pos, ld_br, ld_chk', ld_leaf, fd_br, fd_chk', fd_leaf, decide_true, decide_eq_true_eq, if_true, Int.toNat_natCast, Int.natCast_nonneg, Int.ofNat_lt, Int.ofNat_le, Bool.false_eq_true, if_false, bne_iff_ne, beq_iff_eq, ne_eq, not_true_eq_false, not_false_eq_true, Bool.not_eq_true', decide_eq_false_iff_not, reduceCtorEq, rows_length, pcs_length, er_ok, er_ok', ep_ok, ep_ok', dr_er, dp_ep, isRows_rows, isPcs_pcs, toRows_rows, toPcs_pcs, rows_take, rows_drop, pcs_take, pcs_drop, rows_append, pcs_append, ints_length, isInts_ints, toInts_ints, ei_i, ei_ok, mk_headD, ints_take, ints_drop, ints_append, ints_snoc, ints_snoc', List.take_length, Nat.zero_add, Nat.le_refl, er_a, er_b, er_k, er_n, er_s, er_v, ep_a, ep_b, ep_hk, ep_hn, ep_hs, ep_wk, ep_wn, ep_ws, Nd.eta, ents_length, hk, ents_getD hk, ents_getD hk1, hw, h0', hk1, h0k1, ee_take1, ee_take2, ee_length, hle2, str_ok, str_hd, ee_ok, ee_p, ee_r, he, hkl, hrr, g3, hlab, ql, q2, hput, wrap_succ (show k < 9223372036854775807 by omega)]
      · have hk0 : k = 0 := by omega
        subst hk0
        left
        refine ⟨(putR t S[0].1 S[0].2, none, false, none, false), ⟨hnext, rise_snoc hk hr hs fun h => absurd h (Nat.lt_irrefl 0)⟩, ?_⟩
        rw [t30_0]
        have hz : ¬ ((0 : Int) < ((0 : Nat) : Int)) := by omega
        simp only [c30_0_1, c30_0_2, nd_ok, nd_lab, nd_rows, nd_kids, encL_length, isL_enc, decL_enc, wrap_hd, hd_pos, ld_br, ld_chk', ld_leaf, fd_br, fd_chk', fd_leaf, decide_true, decide_eq_true_eq, if_true, Int.toNat_natCast, Int.natCast_nonneg, Int.ofNat_lt, Int.ofNat_le, Bool.false_eq_true, if_false, bne_iff_ne, beq_iff_eq, ne_eq, not_true_eq_false, not_false_eq_true, Bool.not_eq_true', decide_eq_false_iff_not, reduceCtorEq, rows_length, pcs_length, er_ok, er_ok', ep_ok, ep_ok', dr_er, dp_ep, isRows_rows, isPcs_pcs, toRows_rows, toPcs_pcs, rows_take, rows_drop, pcs_take, pcs_drop, rows_append, pcs_append, ints_length, isInts_ints, toInts_ints, ei_i, ei_ok, mk_headD, ints_take, ints_drop, ints_append, ints_snoc, ints_snoc', List.take_length, Nat.zero_add, Nat.le_refl, er_a, er_b, er_k, er_n, er_s, er_v, ep_a, ep_b, ep_hk, ep_hn, ep_hs, ep_wk, ep_wn, ep_ws, Nd.eta, ents_length, hk, ents_getD hk, hz, ee_take2, ee_length, ee_ok, ee_p, ee_r, hkl, hrr, g3, hlab, ql, q2, hput, wrap_succ (show 0 < 9223372036854775807 by omega)]
    · rintro ⟨t, rn, rt, kn, kt⟩ ⟨ht, hr⟩
      dsimp only at ht ⊢
      rw [List.take_length] at ht hr
      refine ⟨x30_0x1 S.length S.length S.length S.length [] (some true) true [] (some true) true [] (ents S) t.lab rn rt (rows t.rows) kn kt (encL t.kids), by simp, ?_, ?_⟩
      · rw [k30_0x1, fd_leaf, if_pos (rise_nodup hr), ← ht]
      · rw [t30_0]; simp only [nd_ok, nd_lab, nd_rows, nd_kids, encL_length, isL_enc, decL_enc, wrap_hd, hd_pos, ld_br, ld_chk', ld_leaf, fd_br, fd_chk', fd_leaf, decide_true, decide_eq_true_eq, if_true, Int.toNat_natCast, Int.natCast_nonneg, Int.ofNat_lt, Int.ofNat_le, Bool.false_eq_true, if_false, bne_iff_ne, beq_iff_eq, ne_eq, not_true_eq_false, not_false_eq_true, Bool.not_eq_true', decide_eq_false_iff_not, reduceCtorEq, rows_length, pcs_length, er_ok, er_ok', ep_ok, ep_ok', dr_er, dp_ep, isRows_rows, isPcs_pcs, toRows_rows, toPcs_pcs, rows_take, rows_drop, pcs_take, pcs_drop, rows_append, pcs_append, ints_length, isInts_ints, toInts_ints, ei_i, ei_ok, mk_headD, ints_take, ints_drop, ints_append, ints_snoc, ints_snoc', List.take_length, Nat.zero_add, Nat.le_refl, er_a, er_b, er_k, er_n, er_s, er_v, ep_a, ep_b, ep_hk, ep_hn, ep_hs, ep_wk, ep_wn, ep_ws, Int.lt_irrefl]
  refine fd_post hct30 (by kernel_rfl) (by split <;> rfl) key
end Go.Proofs.YtgaabjmbnomimaaDoor
namespace Go.Proofs.YtgaabjmbnomimaaDoor
open Go Go.Ev
theorem ee_mk2 (e : Ent) (d d' : C) : [Sk.str.mk ((ee e).headD d), (Sk.sl 5).mk ((ee e).tail.headD d')] = ee e := rfl
theorem ents_snoc1 (l : List Ent) (e : Ent) : ents l ++ [ee e] = ents (l ++ [e]) := by simp [ents]
theorem ents_take' {l : List Ent} {n : Nat} (h : n = l.length) : (ents l).take n = ents l := ents_take l n h
theorem insQ_drop {x : List Ent} {k : Nat} (h : k < x.length) (put : Bool) (e : Ent) : insQ put e (x.drop k) = cond (!put && !Op.bytesLess x[k].1 e.1) [e] [] ++ (cond (x[k].1 == e.1) [] [x[k]] ++ insQ (put || !Op.bytesLess x[k].1 e.1) e (x.drop (k + 1))) := by
  rw [List.drop_eq_getElem_cons h, insQ]
theorem insQ_len : ∀ (put : Bool) (e : Ent) (x : List Ent), (insQ put e x).length ≤ x.length + (cond put 0 1)
  | put, e, [] => by cases put <;> simp [insQ]
  | put, e, a :: r => by
    rw [insQ]
    have h1 := insQ_len (put || !Op.bytesLess a.1 e.1) e r
    cases put <;> cases hb : Op.bytesLess a.1 e.1 <;> rw [hb] at h1 <;> cases (a.1 == e.1) <;> simp at h1 ⊢ <;> omega
theorem f78 (nl : OBo) (tt : Bool) (x : List Ent) (p : Bys) (rs : List Row) (hx : x.length < 4294967290) : call E 78 [.c (.sl 2 nl tt (ents x)), .agg [.c (.str p), .c (.sl 5 none false (rows rs))]] [] = some ([.c (.sl 2 none false (ents (insQ (decide (rs.length = 0)) (p, rs) x)))], []) := by
  refine call_of (E := E) (sh := sh) (ct := ctOf []) (na := 2) (m := 0) ctOf_nil rfl rfl rfl rfl rfl rfl ?_
  rw [t78, rows_length]
  have hz : ((rs.length : Int) == 0) = decide (rs.length = 0) := by
    by_cases h : rs.length = 0
    · simp [h]
    · have : ((rs.length : Int)) ≠ 0 := by omega
      simp [h, this]
  rw [hz]
  generalize decide (rs.length = 0) = put0
  have hee : [C.str p, C.sl 5 none false (rows rs)] = ee (p, rs) := rfl
  have hlen := insQ_len put0 (p, rs) x
  have hc1 : (cond put0 0 1) ≤ 1 := by cases put0 <;> simp
  have hbnd : ∀ (acc : List Ent) put k, acc ++ insQ put (p, rs) (x.drop k) = insQ put0 (p, rs) x → acc.length + (insQ put (p, rs) (x.drop k)).length ≤ x.length + 1 := fun acc put k h => by
    have := congrArg List.length h
    rw [List.length_append] at this; omega
  refine fd_post (p := p78) ctOf_nil (by kernel_rfl) rfl (list_post (p := p78) ctOf_nil (b := b78_0) x.length (fun k (s : List Ent × Bool) => s78_0 nl tt (ents x) p none false (rows rs) s.1.length s.2 k (ents s.1)) (fun k s => s.1 ++ insQ s.2 (p, rs) (x.drop k) = insQ put0 (p, rs) x) _ ?_ ?_ 0 (Nat.zero_le _) ([], put0) rfl)
  · rintro k ⟨acc, put⟩ hk h
    dsimp only at h
    have hb := hbnd acc put k h
    rw [insQ_drop hk] at h hb
    left
    refine ⟨(acc ++ (cond (!put && !Op.bytesLess x[k].1 p) [(p, rs)] [] ++ cond (x[k].1 == p) [] [x[k]]), put || !Op.bytesLess x[k].1 p), by rw [← h]; simp only [List.append_assoc], ?_⟩
    rw [t78_0]
    dsimp only at hb
    cases put <;> cases c1 : Op.bytesLess x[k].1 p <;> cases c2 : (x[k].1 == p) <;> simp only [c1, c2, Bool.not_true, Bool.not_false, Bool.and_true, Bool.true_and, Bool.and_false, Bool.false_and, cond_true, cond_false, List.length_append, List.length_cons, List.length_nil] at hb <;>
      simp only [ld_br, ld_chk', ld_leaf, fd_br, fd_chk', fd_leaf, decide_true, decide_eq_true_eq, if_true, Int.toNat_natCast, Int.natCast_nonneg, Int.ofNat_lt, Int.ofNat_le, Bool.false_eq_true, if_false, bne_iff_ne, beq_iff_eq, ne_eq, not_true_eq_false, not_false_eq_true, Bool.not_eq_true', decide_eq_false_iff_not, reduceCtorEq, rows_length, pcs_length, er_ok, er_ok', ep_ok, ep_ok', dr_er, dp_ep, isRows_rows, isPcs_pcs, toRows_rows, toPcs_pcs, rows_take, rows_drop, pcs_take, pcs_drop, rows_append, pcs_append, ints_length, isInts_ints, toInts_ints, ei_i, ei_ok, mk_headD, ints_take, ints_drop, ints_append, ints_snoc, ints_snoc', List.take_length, Nat.zero_add, Nat.le_refl, er_a, er_b, er_k, er_n, er_s, er_v, ep_a, ep_b, ep_hk, ep_hn, ep_hs, ep_wk, ep_wn, ep_ws, hee, ents_length, hk, ents_getD hk, ee_ok, ee_p, ee_mk2, c1, c2, Bool.not_true, Bool.not_false, Bool.and_true, Bool.true_and, Bool.and_false, Bool.false_and, Bool.or_true, Bool.true_or, Bool.or_false, Bool.false_or, cond_true, cond_false, Bool.true_eq_false, List.append_nil, List.nil_append,
        ents_take' rfl, ents_snoc1, ents_take' (show acc.length + 1 = (acc ++ [((p, rs) : Ent)]).length by simp), List.length_append, List.length_cons, List.length_nil, List.singleton_append, List.append_assoc, show acc.length + 1 < 4294967296 by omega, show acc.length + 1 + 1 < 4294967296 by omega, wrap_succ (show k < 9223372036854775807 by omega)] <;> rfl
  · rintro ⟨acc, put⟩ h
    dsimp only at h
    have hb := hbnd acc put x.length h
    rw [List.drop_length, insQ] at h
    refine ⟨x78_0x0 nl tt (ents x) p none false (rows rs) acc.length put x.length (ents acc), by simp, ?_, ?_⟩
    · rw [k78_0x0, ← h]
      cases put <;> simp only [ld_br, ld_chk', ld_leaf, fd_br, fd_chk', fd_leaf, decide_true, decide_eq_true_eq, if_true, Int.toNat_natCast, Int.natCast_nonneg, Int.ofNat_lt, Int.ofNat_le, Bool.false_eq_true, if_false, bne_iff_ne, beq_iff_eq, ne_eq, not_true_eq_false, not_false_eq_true, Bool.not_eq_true', decide_eq_false_iff_not, reduceCtorEq, rows_length, pcs_length, er_ok, er_ok', ep_ok, ep_ok', dr_er, dp_ep, isRows_rows, isPcs_pcs, toRows_rows, toPcs_pcs, rows_take, rows_drop, pcs_take, pcs_drop, rows_append, pcs_append, ints_length, isInts_ints, toInts_ints, ei_i, ei_ok, mk_headD, ints_take, ints_drop, ints_append, ints_snoc, ints_snoc', List.take_length, Nat.zero_add, Nat.le_refl, er_a, er_b, er_k, er_n, er_s, er_v, ep_a, ep_b, ep_hk, ep_hn, ep_hs, ep_wk, ep_wn, ep_ws, hee, Bool.not_true, Bool.not_false, cond_true, cond_false, List.append_nil, ents_take' rfl, ents_snoc1, ents_take' (show acc.length + 1 = (acc ++ [((p, rs) : Ent)]).length by simp), show acc.length + 1 < 4294967296 by omega]
    · rw [t78_0]; simp only [ld_br, ld_chk', ld_leaf, fd_br, fd_chk', fd_leaf, decide_true, decide_eq_true_eq, if_true, Int.toNat_natCast, Int.natCast_nonneg, Int.ofNat_lt, Int.ofNat_le, Bool.false_eq_true, if_false, bne_iff_ne, beq_iff_eq, ne_eq, not_true_eq_false, not_false_eq_true, Bool.not_eq_true', decide_eq_false_iff_not, reduceCtorEq, rows_length, pcs_length, er_ok, er_ok', ep_ok, ep_ok', dr_er, dp_ep, isRows_rows, isPcs_pcs, toRows_rows, toPcs_pcs, rows_take, rows_drop, pcs_take, pcs_drop, rows_append, pcs_append, ints_length, isInts_ints, toInts_ints, ei_i, ei_ok, mk_headD, ints_take, ints_drop, ints_append, ints_snoc, ints_snoc', List.take_length, Nat.zero_add, Nat.le_refl, er_a, er_b, er_k, er_n, er_s, er_v, ep_a, ep_b, ep_hk, ep_hn, ep_hs, ep_wk, ep_wn, ep_ws, ents_length, Int.lt_irrefl]
theorem s78_ok : CSpecOk E 78 s78 := by
  intro a h cs vals h' he hc
  unfold s78 at he
  split at he <;> simp only [Option.some.injEq, Prod.mk.injEq, reduceCtorEq] at he
  rename_i nl tt xs p ys
  obtain ⟨rfl, rfl, rfl⟩ := he
  simp only [allT, Bool.and_true, Bool.and_eq_true, decide_eq_true_eq] at hc
  obtain ⟨h1, h2, h3⟩ := hc
  obtain ⟨x, rfl⟩ := ents_ex h1
  obtain ⟨rs, rfl⟩ := rows_ex h2
  rw [ents_length] at h3
  rw [toEs_ents, toRows_rows]
  exact f78 nl tt x p rs h3
theorem hct31 (dd : Nat) : (ctOf [(76, s76), (77, s77), (78, s78), (79, s79 dd)]).ok E := ctOf_cons s76_ok (ctOf_cons s77_ok (ctOf_cons s78_ok (ctOf_cons (s79_ok dd) ctOf_nil)))
theorem f31 (nl : OBo) (tt : Bool) (l : List Ent) (hl : l.length < 4294967290) : call E 31 [.c (.sl 2 nl tt (ents l))] [] = some ([VT (bldP l).1, V.i (bldP l).2], []) := by
  refine call_of (E := E) (sh := sh) (ct := ctOf [(76, s76), (77, s77), (78, s78), (79, s79 (depL (bldT l).kids + 1))]) (na := 1) (m := 0) (hct31 _) rfl rfl rfl rfl rfl rfl ?_
  generalize hdd : depL (bldT l).kids + 1 = dd
  show (p31 dd).fd ((p31 dd).ft _ _) = _
  rw [t31]
  have hloop : ∃ x, ((l.all goodE = true ∧ x = x31_0x1 nl tt (ents l) l.length [] (some true) true [] (some true) true []) ∨ (l.all goodE = false ∧ x = x31_0x0)) ∧ (p31 dd).Loops b31_0 (s31_0 nl tt (ents l) 0 [] (some true) true [] (some true) true []) x := by
    refine list_post (p := p31 dd) (hct31 dd) (b := b31_0) l.length (fun k (_ : Unit) => s31_0 nl tt (ents l) k [] (some true) true [] (some true) true []) (fun k _ => (l.drop k).all goodE = l.all goodE) _ ?_ ?_ 0 (Nat.zero_le _) () rfl
    · intro k _ hk hi
      rw [List.drop_eq_getElem_cons hk, List.all_cons] at hi
      have go : (p31 dd).ld b31_0 ((p31 dd).lts b31_0 (s31_0 nl tt (ents l) k [] (some true) true [] (some true) true [])) = if goodE l[k] = true then some (R.s (s31_0 nl tt (ents l) ((k + 1 : Nat) : Int) [] (some true) true [] (some true) true [])) else some (R.x x31_0x0) := by
        rw [t31_0]
        have hz : ((l[k].2.length : Int) = 0) ↔ l[k].2 = [] := by rw [← List.length_eq_zero_iff]; omega
        simp only [ld_br, ld_chk', ld_leaf, fd_br, fd_chk', fd_leaf, decide_true, decide_eq_true_eq, if_true, Int.toNat_natCast, Int.natCast_nonneg, Int.ofNat_lt, Int.ofNat_le, Bool.false_eq_true, if_false, bne_iff_ne, beq_iff_eq, ne_eq, not_true_eq_false, not_false_eq_true, Bool.not_eq_true', decide_eq_false_iff_not, reduceCtorEq, rows_length, pcs_length, er_ok, er_ok', ep_ok, ep_ok', dr_er, dp_ep, isRows_rows, isPcs_pcs, toRows_rows, toPcs_pcs, rows_take, rows_drop, pcs_take, pcs_drop, rows_append, pcs_append, ints_length, isInts_ints, toInts_ints, ei_i, ei_ok, mk_headD, ints_take, ints_drop, ints_append, ints_snoc, ints_snoc', List.take_length, Nat.zero_add, Nat.le_refl, er_a, er_b, er_k, er_n, er_s, er_v, ep_a, ep_b, ep_hk, ep_hn, ep_hs, ep_wk, ep_wn, ep_ws, ents_length, hk, ents_getD hk, ee_ok, ee_p, ee_r, hz, goodE, wrap_succ (show k < 9223372036854775807 by omega)]
        by_cases hp : isPath l[k].1 = true <;> by_cases h : l[k].2 = [] <;> by_cases hr : right l[k].2 = true <;> simp [hp, h, hr]
      cases c : goodE l[k] with
      | true =>
        rw [c, if_pos rfl] at go
        rw [c, Bool.true_and] at hi
        exact .inl ⟨(), hi, go⟩
      | false =>
        rw [c, if_neg (by simp)] at go
        rw [c, Bool.false_and] at hi
        exact .inr ⟨x31_0x0, by simp, .inr ⟨hi.symm, rfl⟩, go⟩
    · intro _ hi
      rw [List.drop_length, List.all_nil] at hi
      refine ⟨_, ?_, .inl ⟨hi.symm, rfl⟩, ?_⟩
      · simp
      · rw [t31_0]; simp only [ld_br, ld_chk', ld_leaf, fd_br, fd_chk', fd_leaf, decide_true, decide_eq_true_eq, if_true, Int.toNat_natCast, Int.natCast_nonneg, Int.ofNat_lt, Int.ofNat_le, Bool.false_eq_true, if_false, bne_iff_ne, beq_iff_eq, ne_eq, not_true_eq_false, not_false_eq_true, Bool.not_eq_true', decide_eq_false_iff_not, reduceCtorEq, rows_length, pcs_length, er_ok, er_ok', ep_ok, ep_ok', dr_er, dp_ep, isRows_rows, isPcs_pcs, toRows_rows, toPcs_pcs, rows_take, rows_drop, pcs_take, pcs_drop, rows_append, pcs_append, ints_length, isInts_ints, toInts_ints, ei_i, ei_ok, mk_headD, ints_take, ints_drop, ints_append, ints_snoc, ints_snoc', List.take_length, Nat.zero_add, Nat.le_refl, er_a, er_b, er_k, er_n, er_s, er_v, ep_a, ep_b, ep_hk, ep_hn, ep_hs, ep_wk, ep_wn, ep_ws, ents_length, Int.lt_irrefl]
  obtain ⟨x, hx, hL⟩ := hloop
  refine fd_post (p := p31 dd) (hct31 dd) (by kernel_rfl) rfl ⟨x, ?_, hL⟩
  unfold bldP
  rcases hx with ⟨hg, rfl⟩ | ⟨hg, rfl⟩
  · rw [if_pos hg, k31_0x1]
    have hrn := good_rne hg
    have key : ∀ k, k ≤ l.length → Acc (insA [] (l.take k)) ∧ (insA [] (l.take k)).length ≤ k := fun k hk => by
      have hr : Rne (l.take k) := fun e he => hrn e (List.mem_of_mem_take he)
      have := (insA_len (l := l.take k) Acc.nil hr).1
      rw [List.length_take, List.length_nil] at this
      exact ⟨insA_acc Acc.nil hr, by omega⟩
    refine fd_post (p := p31 dd) (hct31 dd) (by kernel_rfl) (by rfl) (list_post (p := p31 dd) (hct31 dd) (b := b31_1) l.length
      (fun k (s : Option Bool × Bool) => s31_1 nl tt (ents l) [] (some true) true [] (some true) true [] s.1 s.2 (ents (insA [] (l.take k))) k) (fun _ _ => True) _ ?_ ?_ 0 (Nat.zero_le _) (some true, true) trivial)
    · rintro k ⟨n5, t5⟩ hk _
      obtain ⟨a1, a2⟩ := key k (by omega)
      have hne := hrn _ (List.getElem_mem hk)
      have hnl : decide (l[k].2.length = 0) = false := by
        rw [decide_eq_false_iff_not]; intro h; exact hne (List.length_eq_zero_iff.1 h)
      have hsn : insQ false l[k] (insA [] (l.take k)) = insA [] (l.take (k + 1)) := by
        rw [insQ_insE hne a1.rise, List.take_succ_eq_append_getElem hk]
        unfold insA
        rw [List.foldl_append]; rfl
      refine .inl ⟨(none, false), trivial, ?_⟩
      rw [t31_1]
      have he : (l[k].1, l[k].2) = l[k] := rfl
      simp only [ld_br, ld_chk', ld_leaf, fd_br, fd_chk', fd_leaf, decide_true, decide_eq_true_eq, if_true, Int.toNat_natCast, Int.natCast_nonneg, Int.ofNat_lt, Int.ofNat_le, Bool.false_eq_true, if_false, bne_iff_ne, beq_iff_eq, ne_eq, not_true_eq_false, not_false_eq_true, Bool.not_eq_true', decide_eq_false_iff_not, reduceCtorEq, rows_length, pcs_length, er_ok, er_ok', ep_ok, ep_ok', dr_er, dp_ep, isRows_rows, isPcs_pcs, toRows_rows, toPcs_pcs, rows_take, rows_drop, pcs_take, pcs_drop, rows_append, pcs_append, ints_length, isInts_ints, toInts_ints, ei_i, ei_ok, mk_headD, ints_take, ints_drop, ints_append, ints_snoc, ints_snoc', List.take_length, Nat.zero_add, Nat.le_refl, er_a, er_b, er_k, er_n, er_s, er_v, ep_a, ep_b, ep_hk, ep_hn, ep_hs, ep_wk, ep_wn, ep_ws, ents_length, isEs_ents, toEs_ents, hk, ents_getD hk, ee_ok, ee_p, ee_r, he, hnl, hsn, show (insA [] (l.take k)).length < 4294967290 by omega, wrap_succ (show k < 9223372036854775807 by omega)]
    · rintro ⟨n5, t5⟩ _
      refine ⟨x31_1x0 nl tt (ents l) [] (some true) true [] (some true) true [] n5 t5 (ents (insA [] (l.take l.length))) l.length, by simp, ?_, ?_⟩
      · rw [k31_1x0, List.take_length]
        obtain ⟨l1, l2⟩ := insA_len (l := l) Acc.nil hrn
        simp only [List.length_nil, Nat.zero_add] at l1 l2
        have l2' : (insA [] l).length = l.length ↔ (pthsE l).Nodup := by
          rw [l2]; simp
        by_cases hd : (pthsE l).Nodup
        · obtain ⟨k1, k2⟩ := bldT_ent hg (by omega) hd
          obtain ⟨b1, b2⟩ := theK_eq (d := dd) (l := insA [] l) (n := 0) (t := (bldT l).kids) ⟨[], 24, (okR_iff.1 k1).2.2, by simp, by omega, rfl, by rw [← k2]; simp [pre', entR]⟩
          have hb : (((insA [] l).length : Int) != (l.length : Int)) = false := by rw [l2'.2 hd]; simp
          rw [if_pos hd]
          simp only [fd_br, fd_chk', fd_leaf, ents_length, isEs_ents, toEs_ents, hb, Bool.false_eq_true, if_false, if_true, show (insA [] l).length < 4294967295 by omega, decide_true, b1, b2]
          refine congrArg (fun v => some (R.out [v, V.c (C.int IntKind.i64 0)] [])) ?_
          show VT (Nd.node [] [] (bldT l).kids) = VT (bldT l)
          obtain ⟨o1, o2, _⟩ := okR_iff.1 k1
          have : Nd.node [] [] (bldT l).kids = bldT l := by conv => rhs; rw [← Nd.eta (bldT l), o1, o2]
          rw [this]
        · have hb : (((insA [] l).length : Int) != (l.length : Int)) = true := by
            have : (insA [] l).length ≠ l.length := fun e => hd (l2'.1 e)
            rw [bne_iff_ne]; omega
          rw [if_neg hd]
          simp only [fd_br, fd_leaf, ents_length, hb, if_true]
          rfl
      · rw [t31_1]; simp only [ld_br, ld_chk', ld_leaf, fd_br, fd_chk', fd_leaf, decide_true, decide_eq_true_eq, if_true, Int.toNat_natCast, Int.natCast_nonneg, Int.ofNat_lt, Int.ofNat_le, Bool.false_eq_true, if_false, bne_iff_ne, beq_iff_eq, ne_eq, not_true_eq_false, not_false_eq_true, Bool.not_eq_true', decide_eq_false_iff_not, reduceCtorEq, rows_length, pcs_length, er_ok, er_ok', ep_ok, ep_ok', dr_er, dp_ep, isRows_rows, isPcs_pcs, toRows_rows, toPcs_pcs, rows_take, rows_drop, pcs_take, pcs_drop, rows_append, pcs_append, ints_length, isInts_ints, toInts_ints, ei_i, ei_ok, mk_headD, ints_take, ints_drop, ints_append, ints_snoc, ints_snoc', List.take_length, Nat.zero_add, Nat.le_refl, er_a, er_b, er_k, er_n, er_s, er_v, ep_a, ep_b, ep_hk, ep_hn, ep_hs, ep_wk, ep_wn, ep_ws, ents_length, Int.lt_irrefl]
  · rw [if_neg (by rw [hg]; simp), k31_0x0, fd_leaf]; rfl
def fewE' (l : List Ent) : Bool := decide (l.length ≤ 60) && l.all fun e => decide (e.1.length ≤ 100) && shortR e.2
theorem f29 (nl : OBo) (tt : Bool) (l : List Ent) : call E 29 [.c (.sl 2 nl tt (ents l))] [] = some ([V.b (fewE' l)], []) := by
  have hct : (ctOf [(23, s23)]).ok E := ctOf_cons s23_ok ctOf_nil
  refine call_of (E := E) (sh := sh) (ct := ctOf [(23, s23)]) (na := 1) (m := 0) hct rfl rfl rfl rfl rfl rfl ?_
  rw [t29, ents_length, fd_br]
  unfold fewE'
  by_cases c0 : (60 : Int) < l.length
  · rw [if_pos (by simpa using c0), fd_leaf]
    have : ¬ l.length ≤ 60 := by omega
    simp [this]
  rw [if_neg (by simpa using c0)]
  have c0' : l.length ≤ 60 := by omega
  simp only [c0', decide_true, Bool.true_and]
  refine fd_post hct (by kernel_rfl) rfl (list_post (p := p29) hct (b := b29_0) l.length (fun k (_ : Unit) => s29_0 nl tt (ents l) k) (fun k _ => ((l.drop k).all fun e => decide (e.1.length ≤ 100) && shortR e.2) = (l.all fun e => decide (e.1.length ≤ 100) && shortR e.2)) _ ?_ ?_ 0 (Nat.zero_le _) () rfl)
  · intro k _ hk hi
    rw [List.drop_eq_getElem_cons hk, List.all_cons] at hi
    have go : p29.ld b29_0 (p29.lts b29_0 (s29_0 nl tt (ents l) k)) = if (decide (l[k].1.length ≤ 100) && shortR l[k].2) = true then some (R.s (s29_0 nl tt (ents l) ((k + 1 : Nat) : Int))) else some (R.x x29_0x0) := by
      rw [t29_0]
      simp only [ld_br, ld_chk', ld_leaf, fd_br, fd_chk', fd_leaf, decide_true, decide_eq_true_eq, if_true, Int.toNat_natCast, Int.natCast_nonneg, Int.ofNat_lt, Int.ofNat_le, Bool.false_eq_true, if_false, bne_iff_ne, beq_iff_eq, ne_eq, not_true_eq_false, not_false_eq_true, Bool.not_eq_true', decide_eq_false_iff_not, reduceCtorEq, rows_length, pcs_length, er_ok, er_ok', ep_ok, ep_ok', dr_er, dp_ep, isRows_rows, isPcs_pcs, toRows_rows, toPcs_pcs, rows_take, rows_drop, pcs_take, pcs_drop, rows_append, pcs_append, ints_length, isInts_ints, toInts_ints, ei_i, ei_ok, mk_headD, ints_take, ints_drop, ints_append, ints_snoc, ints_snoc', List.take_length, Nat.zero_add, Nat.le_refl, er_a, er_b, er_k, er_n, er_s, er_v, ep_a, ep_b, ep_hk, ep_hn, ep_hs, ep_wk, ep_wn, ep_ws, ents_length, hk, ents_getD hk, ee_ok, ee_p, ee_r, wrap_succ (show k < 9223372036854775807 by omega)]
      by_cases c : (100 : Int) < l[k].1.length
      · have : ¬ l[k].1.length ≤ 100 := by omega
        simp [c, this]
      · have : l[k].1.length ≤ 100 := by omega
        cases hs : shortR l[k].2 <;> simp [c, this]
    cases c : (decide (l[k].1.length ≤ 100) && shortR l[k].2) with
    | true =>
      rw [c, if_pos rfl] at go
      rw [c, Bool.true_and] at hi
      exact .inl ⟨(), hi, go⟩
    | false =>
      rw [c, if_neg (by simp)] at go
      rw [c, Bool.false_and] at hi
      refine .inr ⟨x29_0x0, by simp, by rw [k29_0x0, fd_leaf, ← hi], go⟩
  · intro _ hi
    rw [List.drop_length, List.all_nil] at hi
    refine ⟨x29_0x1 nl tt (ents l) l.length, by simp, by rw [k29_0x1, fd_leaf, ← hi], ?_⟩
    rw [t29_0]; simp only [ld_br, ld_chk', ld_leaf, fd_br, fd_chk', fd_leaf, decide_true, decide_eq_true_eq, if_true, Int.toNat_natCast, Int.natCast_nonneg, Int.ofNat_lt, Int.ofNat_le, Bool.false_eq_true, if_false, bne_iff_ne, beq_iff_eq, ne_eq, not_true_eq_false, not_false_eq_true, Bool.not_eq_true', decide_eq_false_iff_not, reduceCtorEq, rows_length, pcs_length, er_ok, er_ok', ep_ok, ep_ok', dr_er, dp_ep, isRows_rows, isPcs_pcs, toRows_rows, toPcs_pcs, rows_take, rows_drop, pcs_take, pcs_drop, rows_append, pcs_append, ints_length, isInts_ints, toInts_ints, ei_i, ei_ok, mk_headD, ints_take, ints_drop, ints_append, ints_snoc, ints_snoc', List.take_length, Nat.zero_add, Nat.le_refl, er_a, er_b, er_k, er_n, er_s, er_v, ep_a, ep_b, ep_hk, ep_hn, ep_hs, ep_wk, ep_wn, ep_ws, ents_length, Int.lt_irrefl]
theorem f33 (l : List Ent) (nl : OBo) (tt : Bool) (nl2 : OBo) (t2 : Bool) (hl : l.length < 4294967296) (hr : ∀ e ∈ l, e.2.length ≤ 9223372036854775807) : call E 33 [.c (.sl 2 nl tt (ents l)), .c (.sl 2 nl2 t2 (ents l))] [] = some ([V.b true], []) := by
  have hct : (ctOf [(26, s26)]).ok E := ctOf_cons s26_ok ctOf_nil
  refine call_of (E := E) (sh := sh) (ct := ctOf [(26, s26)]) (na := 2) (m := 0) hct rfl rfl rfl rfl rfl rfl ?_
  rw [t33, fd_br, bne_self_eq_false, if_neg (by simp)]
  refine fd_post hct (by kernel_rfl) rfl (list_post (p := p33) hct (b := b33_0) l.length (fun k (_ : Unit) => s33_0 nl tt (ents l) nl2 t2 (ents l) k) (fun _ _ => True) _ ?_ ?_ 0 (Nat.zero_le _) () trivial)
  · intro k _ hk _
    have := hr _ (List.getElem_mem hk)
    refine .inl ⟨(), trivial, ?_⟩
    rw [t33_0]
    simp only [ld_br, ld_chk', ld_leaf, fd_br, fd_chk', fd_leaf, decide_true, decide_eq_true_eq, if_true, Int.toNat_natCast, Int.natCast_nonneg, Int.ofNat_lt, Int.ofNat_le, Bool.false_eq_true, if_false, bne_iff_ne, beq_iff_eq, ne_eq, not_true_eq_false, not_false_eq_true, Bool.not_eq_true', decide_eq_false_iff_not, reduceCtorEq, rows_length, pcs_length, er_ok, er_ok', ep_ok, ep_ok', dr_er, dp_ep, isRows_rows, isPcs_pcs, toRows_rows, toPcs_pcs, rows_take, rows_drop, pcs_take, pcs_drop, rows_append, pcs_append, ints_length, isInts_ints, toInts_ints, ei_i, ei_ok, mk_headD, ints_take, ints_drop, ints_append, ints_snoc, ints_snoc', List.take_length, Nat.zero_add, Nat.le_refl, er_a, er_b, er_k, er_n, er_s, er_v, ep_a, ep_b, ep_hk, ep_hn, ep_hs, ep_wk, ep_wn, ep_ws, ents_length, hk, ents_getD hk, ee_ok, ee_p, ee_r, this, beq_self_eq_true, Bool.not_true, wrap_succ (show k < 9223372036854775807 by omega)]
  · intro _ _
    refine ⟨x33_0x1 nl tt (ents l) nl2 t2 (ents l) l.length, by simp, by rw [k33_0x1, fd_leaf], ?_⟩
    rw [t33_0]; simp only [ld_br, ld_chk', ld_leaf, fd_br, fd_chk', fd_leaf, decide_true, decide_eq_true_eq, if_true, Int.toNat_natCast, Int.natCast_nonneg, Int.ofNat_lt, Int.ofNat_le, Bool.false_eq_true, if_false, bne_iff_ne, beq_iff_eq, ne_eq, not_true_eq_false, not_false_eq_true, Bool.not_eq_true', decide_eq_false_iff_not, reduceCtorEq, rows_length, pcs_length, er_ok, er_ok', ep_ok, ep_ok', dr_er, dp_ep, isRows_rows, isPcs_pcs, toRows_rows, toPcs_pcs, rows_take, rows_drop, pcs_take, pcs_drop, rows_append, pcs_append, ints_length, isInts_ints, toInts_ints, ei_i, ei_ok, mk_headD, ints_take, ints_drop, ints_append, ints_snoc, ints_snoc', List.take_length, Nat.zero_add, Nat.le_refl, er_a, er_b, er_k, er_n, er_s, er_v, ep_a, ep_b, ep_hk, ep_hn, ep_hs, ep_wk, ep_wn, ep_ws, ents_length, Int.lt_irrefl]
theorem f32 (t : Nd) (rn : OBo) (rt : Bool) (kn : OBo) (kt : Bool) : call E 32 [.agg [.c (.str t.lab), .c (.sl 5 rn rt (rows t.rows)), .c (.sl 3 kn kt (encL t.kids))]] [] = some ([V.i (checkT t)], []) := by
  refine call_of (E := E) (sh := sh) (ct := ctOf [(80, s80)]) (na := 1) (m := 0) (ctOf_cons s80_ok ctOf_nil) rfl rfl rfl rfl rfl rfl ?_
  rw [t32]
  simp only [nd_ok, nd_lab, nd_rows, nd_kids, encL_length, isL_enc, decL_enc, wrap_hd, hd_pos, ld_br, ld_chk', ld_leaf, fd_br, fd_chk', fd_leaf, decide_true, decide_eq_true_eq, if_true, Int.toNat_natCast, Int.natCast_nonneg, Int.ofNat_lt, Int.ofNat_le, Bool.false_eq_true, if_false, bne_iff_ne, beq_iff_eq, ne_eq, not_true_eq_false, not_false_eq_true, Bool.not_eq_true', decide_eq_false_iff_not, reduceCtorEq, rows_length, pcs_length, er_ok, er_ok', ep_ok, ep_ok', dr_er, dp_ep, isRows_rows, isPcs_pcs, toRows_rows, toPcs_pcs, rows_take, rows_drop, pcs_take, pcs_drop, rows_append, pcs_append, ints_length, isInts_ints, toInts_ints, ei_i, ei_ok, mk_headD, ints_take, ints_drop, ints_append, ints_snoc, ints_snoc', List.take_length, Nat.zero_add, Nat.le_refl, er_a, er_b, er_k, er_n, er_s, er_v, ep_a, ep_b, ep_hk, ep_hn, ep_hs, ep_wk, ep_wn, ep_ws, Nd.eta, checkT]
  cases okR t <;> rfl
end Go.Proofs.YtgaabjmbnomimaaDoor
namespace Go.Proofs.YtgaabjmbnomimaaDoor
open Go Go.Ev
def s30 : CSpec := fun a h => match a, h with
  | [.c (.sl 2 nl tt xs)], [] => some ([isEs xs, decide (xs.length < 4294967290)], [VT (bldP (toEs xs)).1, V.i (bldP (toEs xs)).2], [])
  | _, _ => none
def s29 : CSpec := fun a h => match a, h with
  | [.c (.sl 2 nl tt xs)], [] => some ([isEs xs], [V.b (fewE' (toEs xs))], [])
  | _, _ => none
theorem s30_ok : CSpecOk E 30 s30 := by
  intro a h cs vals h' he hc
  unfold s30 at he
  split at he <;> simp only [Option.some.injEq, Prod.mk.injEq, reduceCtorEq] at he
  rename_i nl tt xs
  obtain ⟨rfl, rfl, rfl⟩ := he
  simp only [allT, Bool.and_true, Bool.and_eq_true, decide_eq_true_eq] at hc
  obtain ⟨h1, h2⟩ := hc
  obtain ⟨l, rfl⟩ := ents_ex h1
  rw [ents_length] at h2
  rw [toEs_ents]
  exact f30 nl tt l h2
theorem s29_ok : CSpecOk E 29 s29 := by
  intro a h cs vals h' he hc
  unfold s29 at he
  split at he <;> simp only [Option.some.injEq, Prod.mk.injEq, reduceCtorEq] at he
  rename_i nl tt xs
  obtain ⟨rfl, rfl, rfl⟩ := he
  simp only [allT, Bool.and_true, Bool.and_eq_true, decide_eq_true_eq] at hc
  obtain ⟨l, rfl⟩ := ents_ex hc
  rw [toEs_ents]
  exact f29 nl tt l
theorem bldP_lens (l : List Ent) (hl : l.length < 4294967290) : lensT (bldP l).1 = true := by
  unfold bldP
  split
  · rename_i hg
    split
    · rename_i hd
      exact okR_lens (bldT_ent hg (by omega) hd).1
    · rfl
  · rfl
end Go.Proofs.YtgaabjmbnomimaaDoor
namespace Go.Proofs.YtgaabjmbnomimaaDoor
open Go Go.Ev
-- cse
variable (dd : Nat)
def s85 : CSpec := fun a h => match a, h with
  | [.agg [.c (.str s), .c (.sl 5 rn rt xs), .c (.sl 3 kn kt ys)]], [] => some ([isRows xs, isL ys, decide (depL (decL ys) < dd), decide (countL (decL ys) < 1000000000)], [V.i ((countT (.node s (toRows xs) (decL ys)) : Nat) : Int)], [])
  | _, _ => none
noncomputable abbrev p85 : Par := par E sh (ctOf [(85, s85 dd)]) 85 1 0
abbrev s85_0 (s : Bys) (rn : OBo) (rt : Bool) (xs : LLC) (kn : OBo) (kt : Bool) (ys : LLC) (i3 : Int) (i4 : Int) : Fr × Hp := ([(1, V.ptr 0 0 0 0), (3, V.c (C.int IntKind.i64 i3)), (4, V.c (C.int IntKind.i64 i4))], [O.box [V.c (C.str s), V.c (C.sl 5 rn rt xs), V.c (C.sl 3 kn kt ys)]])
noncomputable abbrev b85_0 : Code := loopAt (codeOf E (85)) 0
abbrev x85_0x0 (s : Bys) (rn : OBo) (rt : Bool) (xs : LLC) (kn : OBo) (kt : Bool) (ys : LLC) (i3 : Int) (i4 : Int) : Ex × Fr × Hp := (Ex.exit 0, [(1, V.ptr 0 0 0 0), (3, V.c (C.int IntKind.i64 i3)), (4, V.c (C.int IntKind.i64 i4)), (9, V.c (C.bool false))], [O.box [V.c (C.str s), V.c (C.sl 5 rn rt xs), V.c (C.sl 3 kn kt ys)]])
theorem t85_0 (s : Bys) (rn : OBo) (rt : Bool) (xs : LLC) (kn : OBo) (kt : Bool) (ys : LLC) (i3 : Int) (i4 : Int) : (p85 dd).lts b85_0 (s85_0 s rn rt xs kn kt ys i3 i4) = (Tr.br (decide (i4 < (↑ys.length : Int))) (Tr.chk (decide (0 ≤ i4)) (Tr.chk true (Tr.chk (decide (i4.toNat < ys.length)) (Tr.chk (shOk [Sk.str, Sk.sl 5, Sk.sl 3] (ys.getD i4.toNat [])) (Tr.chk (isRows ((ys.getD i4.toNat []).tail.headD C.pnil).xs) (Tr.chk (isL ((ys.getD i4.toNat []).tail.tail.headD C.pnil).xs) (Tr.chk (decide (depL (decL ((ys.getD i4.toNat []).tail.tail.headD C.pnil).xs) < dd)) (Tr.chk (decide (countL (decL ((ys.getD i4.toNat []).tail.tail.headD C.pnil).xs) < 1000000000)) (Tr.leaf (R.s (s85_0 s rn rt xs kn kt ys (IntKind.i64.wrap (i3 + (↑(countT (Nd.node ((ys.getD i4.toNat []).headD C.pnil).st (toRows ((ys.getD i4.toNat []).tail.headD C.pnil).xs) (decL ((ys.getD i4.toNat []).tail.tail.headD C.pnil).xs))) : Int))) (IntKind.i64.wrap (i4 + 1))))))))))))) (Tr.leaf (R.x (x85_0x0 s rn rt xs kn kt ys i3 i4)))) := by kernel_rfl
theorem k85_0x0 (dd : Nat) (s : Bys) (rn : OBo) (rt : Bool) (xs : LLC) (kn : OBo) (kt : Bool) (ys : LLC) (i3 : Int) (i4 : Int) : (p85 dd).fkx 0 (x85_0x0 s rn rt xs kn kt ys i3 i4) = (Tr.leaf (R.out [V.c (C.int IntKind.i64 i3)] [])) := by kernel_rfl
theorem t85 (s : Bys) (rn : OBo) (rt : Bool) (xs : LLC) (kn : OBo) (kt : Bool) (ys : LLC) : (p85 dd).ft ([V.agg [V.c (C.str s), V.c (C.sl 5 rn rt xs), V.c (C.sl 3 kn kt ys)]]) ([]) = (Tr.ls 0 (s85_0 s rn rt xs kn kt ys (1) (0))) := by kernel_rfl
noncomputable abbrev p37 : Par := par E sh (ctOf [(80, s80), (85, s85 dd)]) 37 1 0
theorem t37 (s : Bys) (rn : OBo) (rt : Bool) (xs : LLC) (kn : OBo) (kt : Bool) (ys : LLC) : (p37 dd).ft ([V.agg [V.c (C.str s), V.c (C.sl 5 rn rt xs), V.c (C.sl 3 kn kt ys)]]) ([]) = (Tr.chk (isRows xs) (Tr.chk (isL ys) (Tr.br (!okR (Nd.node s (toRows xs) (decL ys))) (Tr.leaf (R.out [V.c (C.int IntKind.i64 0)] [])) (Tr.chk (isRows xs) (Tr.chk (isL ys) (Tr.chk (decide (depL (decL ys) < dd)) (Tr.chk (decide (countL (decL ys) < 1000000000)) (Tr.leaf (R.out [V.c (C.int IntKind.i64 (↑(countT (Nd.node s (toRows xs) (decL ys))) : Int))] []))))))))) := by kernel_rfl
def s37 : CSpec := s36
def s31 : CSpec := s30
def s32 : CSpec := s28
def rowsLen (l : List Ent) : Bool := l.all fun e => decide (e.2.length ≤ 9223372036854775807)
def s33 : CSpec := fun a h => match a, h with
  | [.c (.sl 2 nl tt xs), .c (.sl 2 nl2 t2 ys)], [] => some ([isEs xs, isEs ys, decide (toEs xs = toEs ys), decide (xs.length < 4294967296), rowsLen (toEs xs)], [V.b true], [])
  | _, _ => none
noncomputable abbrev p7 : Par := par E sh (ctOf [(17, s17n), (22, s22), (24, s24), (28, s28), (29, s29), (30, s30), (31, s31), (32, s32), (33, s33), (34, s34), (35, s35), (36, s36), (37, s37)]) 7 2 0
theorem t7 (zs : LLC) (s : Bys) (xs : LLC) (ys : LLC) : p7.ft ([V.c (C.sl 2 none false zs), V.agg [V.c (C.str s), V.c (C.sl 5 none false xs), V.c (C.sl 3 none false ys)]]) ([]) = (Tr.chk (isEs zs) (Tr.br (!fewE' (toEs zs)) (Tr.leaf (R.out [V.c (C.bool true)] [])) (Tr.chk (isRows xs) (Tr.chk (isL ys) (Tr.chk (lensT (Nd.node s (toRows xs) (decL ys))) (Tr.br (!smallR 400 (Nd.node s (toRows xs) (decL ys))) (Tr.leaf (R.out [V.c (C.bool true)] [])) (Tr.chk (isEs zs) (Tr.chk (decide (zs.length < 4294967290)) (Tr.chk (isEs zs) (Tr.chk (decide (zs.length < 4294967290)) (Tr.chk (isRows (rows (bldP (toEs zs)).fst.rows)) (Tr.chk (isL (encL (bldP (toEs zs)).fst.kids)) (Tr.chk (isRows (rows (bldP (toEs zs)).fst.rows)) (Tr.chk (isL (encL (bldP (toEs zs)).fst.kids)) (Tr.chk (lensT (Nd.node (bldP (toEs zs)).fst.lab (toRows (rows (bldP (toEs zs)).fst.rows)) (decL (encL (bldP (toEs zs)).fst.kids)))) (Tr.br (sameT (Nd.node (bldP (toEs zs)).fst.lab (toRows (rows (bldP (toEs zs)).fst.rows)) (decL (encL (bldP (toEs zs)).fst.kids))) (Nd.node (bldP (toEs zs)).fst.lab (toRows (rows (bldP (toEs zs)).fst.rows)) (decL (encL (bldP (toEs zs)).fst.kids)))) (Tr.br ((bldP (toEs zs)).snd == (bldP (toEs zs)).snd) (Tr.chk (isRows xs) (Tr.chk (isL ys) (Tr.chk (isRows xs) (Tr.chk (isL ys) (Tr.br (checkT (Nd.node s (toRows xs) (decL ys)) == checkT (Nd.node s (toRows xs) (decL ys))) (Tr.chk (isRows xs) (Tr.chk (isL ys) (Tr.chk (decide ((entL (decL ys)).length < 1000000000)) (Tr.chk (isRows xs) (Tr.chk (isL ys) (Tr.chk (decide ((entT (Nd.node s (toRows xs) (decL ys))).length < 4294967290)) (Tr.chk (isEs (ents (entP (Nd.node s (toRows xs) (decL ys))))) (Tr.chk (isEs (ents (if okR (Nd.node s (toRows xs) (decL ys)) = true then entT (Nd.node s (toRows xs) (decL ys)) else []))) (Tr.chk (decide (toEs (ents (entP (Nd.node s (toRows xs) (decL ys)))) = toEs (ents (if okR (Nd.node s (toRows xs) (decL ys)) = true then entT (Nd.node s (toRows xs) (decL ys)) else [])))) (Tr.chk (decide ((ents (entP (Nd.node s (toRows xs) (decL ys)))).length < 4294967296)) (Tr.chk (rowsLen (toEs (ents (entP (Nd.node s (toRows xs) (decL ys)))))) (Tr.br true (Tr.chk (isRows xs) (Tr.chk (isL ys) (Tr.chk (decide (countL (decL ys) < 1000000000)) (Tr.chk (isRows xs) (Tr.chk (isL ys) (Tr.chk (decide (countL (decL ys) < 1000000000)) (Tr.br (nodesP (Nd.node s (toRows xs) (decL ys)) == nodesP (Nd.node s (toRows xs) (decL ys))) (Tr.leaf (R.out [V.c (C.bool true)] [])) (Tr.leaf (R.out [V.c (C.bool false)] []))))))))) (Tr.leaf (R.out [V.c (C.bool false)] [])))))))))))))) (Tr.leaf (R.out [V.c (C.bool false)] []))))))) (Tr.leaf (R.out [V.c (C.bool false)] []))) (Tr.leaf (R.out [V.c (C.bool false)] [])))))))))))))))))) := by kernel_rfl
end Go.Proofs.YtgaabjmbnomimaaDoor
namespace Go.Proofs.YtgaabjmbnomimaaDoor
open Go Go.Ev
theorem f85 (dd : Nat) (ih : CSpecOk E 85 (s85 dd)) (s : Bys) (rn : OBo) (rt : Bool) (rs : List Row) (kn : OBo) (kt : Bool) (ks : List Nd) (hd : depL ks < dd + 1) (hc : countL ks < 1000000000) :
    call E 85 [.agg [.c (.str s), .c (.sl 5 rn rt (rows rs)), .c (.sl 3 kn kt (encL ks))]] [] = some ([V.i (countT (.node s rs ks))], []) := by
  have hct : (ctOf [(85, s85 dd)]).ok E := ctOf_cons ih ctOf_nil
  refine call_of (E := E) (sh := sh) (ct := ctOf [(85, s85 dd)]) (na := 1) (m := 0) hct rfl rfl rfl rfl rfl rfl ?_
  show (p85 dd).fd ((p85 dd).ft _ _) = _
  rw [t85]
  have hkl : ks.length ≤ countL ks := by
    clear hd hc
    induction ks with
    | nil => simp
    | cons t r ih => rw [countL, countT_eq, List.length_cons]; omega
  refine fd_post hct (by kernel_rfl) rfl (list_post (p := p85 dd) hct (b := b85_0) ks.length (fun k (m : Nat) => s85_0 s rn rt (rows rs) kn kt (encL ks) m k) (fun k m => m = countL (ks.take k) + 1) _ ?_ ?_ 0 (Nat.zero_le _) 1 rfl)
  · rintro k m hk rfl
    have hkid : depL ks[k].kids < dd := by have := depL_kid (List.getElem_mem hk); omega
    have hcm := countL_mem (List.getElem_mem hk)
    rw [countT_eq] at hcm
    have hnx : countL (ks.take (k + 1)) = countL (ks.take k) + countT ks[k] := by rw [List.take_succ_eq_append_getElem hk, countL_app]; simp [countL]
    have hle := countL_take_le ks (k + 1)
    left
    refine ⟨countL (ks.take (k + 1)) + 1, rfl, ?_⟩
    rw [t85_0]
    simp only [nd_ok, nd_lab, nd_rows, nd_kids, encL_length, isL_enc, decL_enc, wrap_hd, hd_pos, ld_br, ld_chk', ld_leaf, fd_br, fd_chk', fd_leaf, decide_true, decide_eq_true_eq, if_true, Int.toNat_natCast, Int.natCast_nonneg, Int.ofNat_lt, Int.ofNat_le, Bool.false_eq_true, if_false, bne_iff_ne, beq_iff_eq, ne_eq, not_true_eq_false, not_false_eq_true, Bool.not_eq_true', decide_eq_false_iff_not, reduceCtorEq, rows_length, pcs_length, er_ok, er_ok', ep_ok, ep_ok', dr_er, dp_ep, isRows_rows, isPcs_pcs, toRows_rows, toPcs_pcs, rows_take, rows_drop, pcs_take, pcs_drop, rows_append, pcs_append, ints_length, isInts_ints, toInts_ints, ei_i, ei_ok, mk_headD, ints_take, ints_drop, ints_append, ints_snoc, ints_snoc', List.take_length, Nat.zero_add, Nat.le_refl, er_a, er_b, er_k, er_n, er_s, er_v, ep_a, ep_b, ep_hk, ep_hn, ep_hs, ep_wk, ep_wn, ep_ws, hk, encL_getD hk, nd_node, hkid, show countL ks[k].kids < 1000000000 by omega, wrap_succ (show k < 9223372036854775807 by omega)]
    have w : IntKind.wrap .i64 (((countL (ks.take k) + 1 : Nat) : Int) + (countT ks[k] : Nat)) = ((countL (ks.take (k + 1)) + 1 : Nat) : Int) := by
      rw [wrap_same (by omega) (by omega)]; omega
    rw [w]
  · rintro _ rfl
    rw [t85_0]
    refine ⟨x85_0x0 s rn rt (rows rs) kn kt (encL ks) (countL (ks.take ks.length) + 1 : Nat) ks.length, by simp, ?_, by simp only [nd_ok, nd_lab, nd_rows, nd_kids, encL_length, isL_enc, decL_enc, wrap_hd, hd_pos, ld_br, ld_chk', ld_leaf, fd_br, fd_chk', fd_leaf, decide_true, decide_eq_true_eq, if_true, Int.toNat_natCast, Int.natCast_nonneg, Int.ofNat_lt, Int.ofNat_le, Bool.false_eq_true, if_false, bne_iff_ne, beq_iff_eq, ne_eq, not_true_eq_false, not_false_eq_true, Bool.not_eq_true', decide_eq_false_iff_not, reduceCtorEq, rows_length, pcs_length, er_ok, er_ok', ep_ok, ep_ok', dr_er, dp_ep, isRows_rows, isPcs_pcs, toRows_rows, toPcs_pcs, rows_take, rows_drop, pcs_take, pcs_drop, rows_append, pcs_append, ints_length, isInts_ints, toInts_ints, ei_i, ei_ok, mk_headD, ints_take, ints_drop, ints_append, ints_snoc, ints_snoc', List.take_length, Nat.zero_add, Nat.le_refl, er_a, er_b, er_k, er_n, er_s, er_v, ep_a, ep_b, ep_hk, ep_hn, ep_hs, ep_wk, ep_wn, ep_ws, Int.lt_irrefl]⟩
    rw [k85_0x0, fd_leaf, List.take_length, countT]
theorem s85_ok : ∀ d, CSpecOk E 85 (s85 d)
  | 0 => by
    intro a h cs vals h' he hc
    unfold s85 at he
    split at he <;> simp only [Option.some.injEq, Prod.mk.injEq, reduceCtorEq] at he
    obtain ⟨rfl, rfl, rfl⟩ := he
    simp [allT] at hc
  | d + 1 => by
    intro a h cs vals h' he hc
    unfold s85 at he
    split at he <;> simp only [Option.some.injEq, Prod.mk.injEq, reduceCtorEq] at he
    rename_i s rn rt xs kn kt ys
    obtain ⟨rfl, rfl, rfl⟩ := he
    simp only [allT, Bool.and_true, Bool.and_eq_true, decide_eq_true_eq] at hc
    obtain ⟨h1, h2, h3, h4⟩ := hc
    obtain ⟨rs, rfl⟩ := rows_ex h1
    obtain ⟨ks, rfl⟩ := isL_ex h2
    simp only [toRows_rows, decL_enc] at *
    exact f85 d (s85_ok d) s rn rt rs kn kt ks h3 h4
theorem f37 (s : Bys) (rn : OBo) (rt : Bool) (rs : List Row) (kn : OBo) (kt : Bool) (ks : List Nd) (hc : countL ks < 1000000000) :
    call E 37 [.agg [.c (.str s), .c (.sl 5 rn rt (rows rs)), .c (.sl 3 kn kt (encL ks))]] [] = some ([V.i (nodesP (.node s rs ks))], []) := by
  have hct : (ctOf [(80, s80), (85, s85 (depL ks + 1))]).ok E := ctOf_cons s80_ok (ctOf_cons (s85_ok _) ctOf_nil)
  refine call_of (E := E) (sh := sh) (ct := ctOf [(80, s80), (85, s85 (depL ks + 1))]) (na := 1) (m := 0) hct rfl rfl rfl rfl rfl rfl ?_
  show (p37 (depL ks + 1)).fd ((p37 (depL ks + 1)).ft _ _) = _
  rw [t37]
  simp only [nd_ok, nd_lab, nd_rows, nd_kids, encL_length, isL_enc, decL_enc, wrap_hd, hd_pos, ld_br, ld_chk', ld_leaf, fd_br, fd_chk', fd_leaf, decide_true, decide_eq_true_eq, if_true, Int.toNat_natCast, Int.natCast_nonneg, Int.ofNat_lt, Int.ofNat_le, Bool.false_eq_true, if_false, bne_iff_ne, beq_iff_eq, ne_eq, not_true_eq_false, not_false_eq_true, Bool.not_eq_true', decide_eq_false_iff_not, reduceCtorEq, rows_length, pcs_length, er_ok, er_ok', ep_ok, ep_ok', dr_er, dp_ep, isRows_rows, isPcs_pcs, toRows_rows, toPcs_pcs, rows_take, rows_drop, pcs_take, pcs_drop, rows_append, pcs_append, ints_length, isInts_ints, toInts_ints, ei_i, ei_ok, mk_headD, ints_take, ints_drop, ints_append, ints_snoc, ints_snoc', List.take_length, Nat.zero_add, Nat.le_refl, er_a, er_b, er_k, er_n, er_s, er_v, ep_a, ep_b, ep_hk, ep_hn, ep_hs, ep_wk, ep_wn, ep_ws, show depL ks < depL ks + 1 by omega, hc]
  unfold nodesP
  cases okR (.node s rs ks) <;> simp
theorem s37_ok : CSpecOk E 37 s37 := by
  intro a h cs vals h' he hc
  unfold s37 s36 at he
  split at he <;> simp only [Option.some.injEq, Prod.mk.injEq, reduceCtorEq] at he
  rename_i s rn rt xs kn kt ys
  obtain ⟨rfl, rfl, rfl⟩ := he
  simp only [allT, Bool.and_true, Bool.and_eq_true, decide_eq_true_eq] at hc
  obtain ⟨h1, h2, h3⟩ := hc
  obtain ⟨rs, rfl⟩ := rows_ex h1
  obtain ⟨ks, rfl⟩ := isL_ex h2
  simp only [toRows_rows, decL_enc] at *
  exact f37 s rn rt rs kn kt ks h3
theorem s31_ok : CSpecOk E 31 s31 := by
  intro a h cs vals h' he hc
  unfold s31 s30 at he
  split at he <;> simp only [Option.some.injEq, Prod.mk.injEq, reduceCtorEq] at he
  rename_i nl tt xs
  obtain ⟨rfl, rfl, rfl⟩ := he
  simp only [allT, Bool.and_true, Bool.and_eq_true, decide_eq_true_eq] at hc
  obtain ⟨h1, h2⟩ := hc
  obtain ⟨l, rfl⟩ := ents_ex h1
  rw [ents_length] at h2
  rw [toEs_ents]
  exact f31 nl tt l h2
theorem s32_ok : CSpecOk E 32 s32 := by
  intro a h cs vals h' he hc
  unfold s32 s28 at he
  split at he <;> simp only [Option.some.injEq, Prod.mk.injEq, reduceCtorEq] at he
  rename_i s rn rt xs kn kt ys
  obtain ⟨rfl, rfl, rfl⟩ := he
  simp only [allT, Bool.and_true, Bool.and_eq_true, decide_eq_true_eq] at hc
  obtain ⟨h1, h2⟩ := hc
  obtain ⟨rs, rfl⟩ := rows_ex h1
  obtain ⟨ks, rfl⟩ := isL_ex h2
  simp only [toRows_rows, decL_enc] at *
  exact f32 (.node s rs ks) rn rt kn kt
theorem s33_ok : CSpecOk E 33 s33 := by
  intro a h cs vals h' he hc
  unfold s33 at he
  split at he <;> simp only [Option.some.injEq, Prod.mk.injEq, reduceCtorEq] at he
  rename_i nl tt xs nl2 t2 ys
  obtain ⟨rfl, rfl, rfl⟩ := he
  simp only [allT, Bool.and_true, Bool.and_eq_true, decide_eq_true_eq] at hc
  obtain ⟨h1, h2, h3, h4, h5⟩ := hc
  obtain ⟨x, rfl⟩ := ents_ex h1
  obtain ⟨y, rfl⟩ := ents_ex h2
  rw [toEs_ents, toEs_ents] at h3
  subst h3
  rw [ents_length] at h4
  rw [toEs_ents] at h5
  refine f33 x nl tt nl2 t2 h4 fun e he => ?_
  have := List.all_eq_true.1 h5 e he
  simpa using this
theorem root_ent' {t : Nd} (h : okR t = true) : entT t = entP t := by
  obtain ⟨h1, h2, _⟩ := okR_iff.1 h
  rw [entP_R h, entT_eq, h1, h2]
  simp [entR]
theorem ref_ent (t : Nd) : (if okR t = true then entT t else []) = entP t := by
  by_cases h : okR t = true
  · rw [if_pos h, root_ent' h]
  · rw [if_neg h, entP]
    rw [Bool.not_eq_true] at h
    rw [h]; rfl
theorem f7 (l : List Ent) (t : Nd) (ht : lensT t = true) : call E 7 [.c (.sl 2 none false (ents l)), VT t] [] = some ([V.b true], []) := by
  have hct : (ctOf [(17, s17n), (22, s22), (24, s24), (28, s28), (29, s29), (30, s30), (31, s31), (32, s32), (33, s33), (34, s34), (35, s35), (36, s36), (37, s37)]).ok E :=
    ctOf_cons s17n_ok (ctOf_cons s22_ok (ctOf_cons s24_ok (ctOf_cons s28_ok (ctOf_cons s29_ok (ctOf_cons s30_ok (ctOf_cons s31_ok (ctOf_cons s32_ok (ctOf_cons s33_ok (ctOf_cons s34_ok (ctOf_cons s35_ok (ctOf_cons s36_ok (ctOf_cons s37_ok ctOf_nil))))))))))))
  refine call_of (E := E) (sh := sh) (ct := ctOf [(17, s17n), (22, s22), (24, s24), (28, s28), (29, s29), (30, s30), (31, s31), (32, s32), (33, s33), (34, s34), (35, s35), (36, s36), (37, s37)]) (na := 2) (m := 0) hct rfl rfl rfl rfl rfl rfl ?_
  show p7.fd (p7.ft [.c (.sl 2 none false (ents l)), VT t] []) = some (.out _ _)
  rw [show p7.ft [.c (.sl 2 none false (ents l)), VT t] [] = _ from t7 _ _ _ _]
  simp only [toRows_rows, Nd.eta, isRows_rows, isL_enc, decL_enc, isEs_ents, toEs_ents, ents_length, ht, fd_br, fd_chk', fd_leaf, if_true, Bool.not_eq_true']
  by_cases s1 : fewE' l = false
  · rw [if_pos s1]
  rw [if_neg s1]
  by_cases s2 : smallR 400 t = false
  · rw [if_pos s2]
  rw [if_neg s2]
  rw [Bool.not_eq_false] at s1 s2
  have hl : l.length < 4294967290 := by
    simp only [fewE', Bool.and_eq_true, decide_eq_true_eq] at s1; omega
  simp only [smallR, decide_eq_true_eq] at s2
  have hc : countL t.kids < 1000000000 := by
    have := leftT_cnt t 400 60 (by omega) s2
    rw [countT_eq] at this; omega
  have he := leftT_ent t 400 60 (by omega) s2
  have hek : (entL t.kids).length ≤ (entT t).length := by rw [entT_eq]; simp
  have hk : (entL t.kids).length < 1000000000 := by omega
  have hT : (entT t).length < 4294967290 := by omega
  have hP : (entP t).length < 4294967296 := by have := entP_len t hk; omega
  have hrl : rowsLen (entP t) = true := by
    rw [rowsLen, List.all_eq_true]
    intro e hm
    exact decide_eq_true (right_len63 ((gd_entP t).right e hm))
  simp only [hl, bldP_lens l hl, sameT_refl, beq_self_eq_true, ref_ent, toEs_ents, isEs_ents, hk, hT, hP, hrl, hc, decide_true, if_true]
end Go.Proofs.YtgaabjmbnomimaaDoor
namespace Go.Proofs.YtgaabjmbnomimaaDoor
open Go Go.Ev
set_option maxRecDepth 100000
theorem rdE : ∀ (n : Nat) (xs : List C), Rd Tryd.prog n 55 xs → ∃ l : List Ent, xs = [.sl 2 none false (ents l)] ∧ l.length ≤ maxLen ∧ rowsLen l = true
  | 0, xs, h => h.elim
  | n + 1, xs, h => by
    rw [Rd, Tryd.underlying55] at h
    obtain ⟨ys, rfl, hq, hy⟩ := h
    have hz : Tryd.prog.cellsOf 65 = 2 := by kernel_rfl
    have : ∃ l : List Ent, ys = ents l ∧ rowsLen l = true := by
      clear hq
      induction ys with
      | nil => exact ⟨[], rfl, rfl⟩
      | cons y r ih =>
        obtain ⟨l, rfl, hl⟩ := ih (fun z hz => hy z (by simp [hz]))
        have h1 := hy y (by simp)
        cases n with
        | zero => exact h1.elim
        | succ n =>
          rw [Rd, Tryd.underlying65] at h1
          obtain ⟨parts, hl2, rfl, hp⟩ := h1
          match parts, hl2 with
          | [p, q], _ =>
            obtain ⟨s, rfl, h2⟩ := rdSl Tryd.underlying9 (hp 0 _ p rfl rfl)
            obtain ⟨rs, rfl, h3⟩ := rdRows (hp 1 _ q rfl rfl)
            refine ⟨(s, rs) :: l, rfl, ?_⟩
            rw [rowsLen, List.all_cons, show (l.all fun e => decide (e.2.length ≤ 9223372036854775807)) = true from hl, Bool.and_true]
            have hm : maxLen ≤ 9223372036854775807 := by decide
            exact decide_eq_true (by show rs.length ≤ _; omega)
    obtain ⟨l, rfl, hl⟩ := this
    exact ⟨l, by rw [hz], by rw [ents_length] at hq; exact hq, hl⟩
structure Le where
  l : List Ent
  ok : l.length ≤ maxLen
  rl : rowsLen l = true
theorem ar55 {v : V} {vl : List V} {ts : List TypeId} (h : Args Tryd.prog (55 :: ts) (v :: vl)) : (∃ x : Le, v = .c (.sl 2 none false (ents x.l))) ∧ Args Tryd.prog ts vl :=
  arC (fun x : Le => .sl 2 none false (ents x.l)) (by kernel_rfl) (fun h => by obtain ⟨l, h1, h2, h3⟩ := rdE _ _ h; exact ⟨⟨l, h2, h3⟩, h1⟩) h
theorem l7 (l : Le) (t : Lt) : call E 7 [.c (.sl 2 none false (ents l.l)), VT t.t] [] = some ([V.b true], []) := f7 l.l t.t t.ok
end Go.Proofs.YtgaabjmbnomimaaDoor
