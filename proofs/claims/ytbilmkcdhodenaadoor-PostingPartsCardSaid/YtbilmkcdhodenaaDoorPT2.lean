/-
  Chapter 13 (posting): trees, written by a program: Grow, Concat, Add.
-/
import Derived.Test.YtbilmkcdhodenaaDoorPT1
import Derived.Test.YtbilmkcdhodenaaDoorPM3
set_option linter.all false
set_option linter.unusedSimpArgs false
set_option linter.unusedVariables false
section
namespace Go.Proofs.YtbilmkcdhodenaaDoor
open Go Go.Ev
set_option pp.deepTerms true
set_option pp.maxSteps 1000000
set_option pp.funBinderTypes true
set_option pp.coercions.types true
def s82 : CSpec := fun a h => match a, h with
  | [.c (.sl 3 nl tt xs)], [] => some ([isPsts xs, decide (xs.length < 4294967296)], [V.b (okP (toPsts xs))], [])
  | _, _ => none
noncomputable abbrev p79 : Par := par E sh (ctOf [(123, s123)]) 79 1 0
abbrev s79_0 (n0 : Option Bool) (t0 : Bool) (xs0 : List (List C)) (i3 : Int) (xs9 : List (List C)) (i10 : Int) (i11 : Int) : Fr × Hp := ([(0, V.c (C.sl 1 n0 t0 xs0)), (3, V.c (C.int IntKind.i64 i3)), (9, V.c (C.sl 1 n0 t0 xs9)), (10, V.c (C.int IntKind.i64 i10)), (11, V.c (C.int IntKind.i64 i11))], [])
noncomputable abbrev b79_0 : Code := loopAt (codeOf p79.E p79.g) 0
abbrev x79_0x0 (n0 : Option Bool) (t0 : Bool) (xs0 : List (List C)) (i3 : Int) (xs9 : List (List C)) (i10 : Int) (i11 : Int) : Ex × Fr × Hp := (Ex.exit 0, [(0, V.c (C.sl 1 n0 t0 xs0)), (3, V.c (C.int IntKind.i64 i3)), (9, V.c (C.sl 1 n0 t0 xs9)), (10, V.c (C.int IntKind.i64 i10)), (11, V.c (C.int IntKind.i64 i11)), (12, V.c (C.bool false))], [])
abbrev s79_1 (n0 : Option Bool) (t0 : Bool) (xs0 : List (List C)) (n6 : Nat) (i26 : Int) (i27 : Int) (ys0 : List (List C)) : Fr × Hp := ([(6, V.buf 0 0 0 n6), (25, V.c (C.sl 1 n0 t0 xs0)), (26, V.c (C.int IntKind.i64 i26)), (27, V.c (C.int IntKind.i64 i27))], [O.mem 3 0 ys0])
noncomputable abbrev b79_1 : Code := loopAt (codeOf p79.E p79.g) 1
abbrev x79_1x0 (n0 : Option Bool) (t0 : Bool) (xs0 : List (List C)) (n6 : Nat) (i26 : Int) (i27 : Int) (ys0 : List (List C)) : Ex × Fr × Hp := (Ex.exit 2, [(6, V.buf 0 0 0 n6), (25, V.c (C.sl 1 n0 t0 xs0)), (26, V.c (C.int IntKind.i64 i26)), (27, V.c (C.int IntKind.i64 i27)), (28, V.c (C.bool false))], [O.mem 3 0 ys0])
theorem t79_0 (n0 : Option Bool) (t0 : Bool) (xs0 : List (List C)) (i3 : Int) (xs9 : List (List C)) (i10 : Int) (i11 : Int) : p79.lts b79_0 (s79_0 n0 t0 xs0 i3 xs9 i10 i11) = (Tr.br (decide (i11 < i10)) (Tr.chk (decide (0 ≤ i11)) (Tr.chk true (Tr.chk (decide (i11.toNat < xs9.length)) (Tr.chk (shOk [Sk.slx 3] (xs9.getD i11.toNat [])) (Tr.br (decide (IntKind.i64.wrap (i3 + (↑((xs9.getD i11.toNat []).headD C.pnil).xs.length : Int)) < 0)) Tr.fail (Tr.leaf (R.s (s79_0 n0 t0 xs0 (IntKind.i64.wrap (i3 + (↑((xs9.getD i11.toNat []).headD C.pnil).xs.length : Int))) xs9 i10 (IntKind.i64.wrap (i11 + 1)))))))))) (Tr.leaf (R.x (x79_0x0 n0 t0 xs0 i3 xs9 i10 i11)))) := by kernel_rfl
theorem t79_1 (n0 : Option Bool) (t0 : Bool) (xs0 : List (List C)) (n6 : Nat) (i26 : Int) (i27 : Int) (ys0 : List (List C)) : p79.lts b79_1 (s79_1 n0 t0 xs0 n6 i26 i27 ys0) = (Tr.br (decide (i27 < i26)) (Tr.chk (decide (0 ≤ i27)) (Tr.chk true (Tr.chk (decide (i27.toNat < xs0.length)) (Tr.chk (shOk [Sk.slx 3] (xs0.getD i27.toNat [])) (Tr.chk true (Tr.chk true (Tr.chk (decide (n6 + ((xs0.getD i27.toNat []).headD C.pnil).xs.length < 4294967296)) (Tr.chk true (Tr.leaf (R.s (s79_1 n0 t0 xs0 (n6 + ((xs0.getD i27.toNat []).headD C.pnil).xs.length) i26 (IntKind.i64.wrap (i27 + 1)) (List.take n6 ys0 ++ ((xs0.getD i27.toNat []).headD C.pnil).xs)))))))))))) (Tr.leaf (R.x (x79_1x0 n0 t0 xs0 n6 i26 i27 ys0)))) := by kernel_rfl
theorem k79_1x0 (n0 : Option Bool) (t0 : Bool) (xs0 : List (List C)) (n6 : Nat) (i26 : Int) (i27 : Int) (ys0 : List (List C)) : p79.fkx 1 (x79_1x0 n0 t0 xs0 n6 i26 i27 ys0) = (Tr.leaf (R.out [V.buf 0 0 0 n6] [O.mem 3 0 ys0])) := by kernel_rfl
theorem k79_0x0 (n0 : Option Bool) (t0 : Bool) (xs0 : List (List C)) (i3 : Int) (xs9 : List (List C)) (i10 : Int) (i11 : Int) : p79.fkx 0 (x79_0x0 n0 t0 xs0 i3 xs9 i10 i11) = (Tr.chk (decide (0 ≤ i3)) (Tr.chk (decide (i3 < 4294967296)) (Tr.ls 1 (s79_1 n0 t0 xs0 (0) ((↑xs0.length : Int)) (0) ([]))))) := by kernel_rfl
theorem t79 (n0 : Option Bool) (t0 : Bool) (nl : Option Bool) (tt : Bool) (xs : List (List C)) (nl2 : Option Bool) (t2 : Bool) (ys : List (List C)) : p79.ft ([V.c (C.sl 1 n0 t0 [[C.sl 3 nl tt xs], [C.sl 3 nl2 t2 ys]])]) ([]) = (Tr.ls 0 (s79_0 n0 t0 ([[C.sl 3 nl tt xs], [C.sl 3 nl2 t2 ys]]) (0) ([[C.sl 3 nl tt xs], [C.sl 3 nl2 t2 ys]]) (2) (0))) := by kernel_rfl
def s43 : CSpec := fun a h => match a, h with
  | [.c (.sl 3 nl tt xs)], [] => some ([isPsts xs, decide (xs.length < 4294967296)], [V.i (checkP (toPsts xs))], [])
  | _, _ => none
def s79 : CSpec := fun a h => match a, h with
  | [.c (.sl 1 _ _ [[.sl 3 nl tt xs], [.sl 3 nl2 t2 ys]])], [] => some ([isPsts xs, isPsts ys, decide (xs.length + ys.length < 4294967296)], [.buf 0 0 0 (xs.length + ys.length)], [.mem 3 0 (xs ++ ys)])
  | _, _ => none
noncomputable abbrev p40 : Par := par E sh (ctOf [(43, s43), (79, s79), (80, s80), (81, s81)]) 40 2 0
abbrev s40_0 (n6 : Nat) (i23 : Int) (i24 : Int) (ys0 : List (List C)) : Fr × Hp := ([(6, V.buf 0 0 0 n6), (23, V.c (C.int IntKind.i64 i23)), (24, V.c (C.int IntKind.i64 i24))], [O.mem 3 0 ys0])
noncomputable abbrev b40_0 : Code := loopAt (codeOf p40.E p40.g) 0
abbrev x40_0x0 (ys0 : List (List C)) : Ex × Fr × Hp := (Ex.ret, [(4, V.c (C.sl 3 (some true) true [])), (5, V.c (C.int IntKind.i64 16))], [O.mem 3 0 ys0])
abbrev x40_0x1 (n6 : Nat) (i23 : Int) (i24 : Int) (ys0 : List (List C)) : Ex × Fr × Hp := (Ex.exit 0, [(6, V.buf 0 0 0 n6), (23, V.c (C.int IntKind.i64 i23)), (24, V.c (C.int IntKind.i64 i24)), (25, V.c (C.bool false))], [O.mem 3 0 ys0])
theorem t40_0 (n6 : Nat) (i23 : Int) (i24 : Int) (ys0 : List (List C)) : p40.lts b40_0 (s40_0 n6 i23 i24 ys0) = (Tr.br (decide (i24 < i23)) (Tr.br (decide (0 < i24)) (Tr.chk (decide (0 ≤ IntKind.i64.wrap (i24 - 1))) (Tr.chk (decide (IntKind.i64.wrap (i24 - 1) < (↑n6 : Int))) (Tr.chk true (Tr.chk true (Tr.chk true (Tr.chk (decide (0 + (IntKind.i64.wrap (i24 - 1)).toNat < ys0.length)) (Tr.chk (decide (3 ≤ (ys0.getD (0 + (IntKind.i64.wrap (i24 - 1)).toNat) []).length)) (Tr.chk (shOk [Sk.str, Sk.int IntKind.i64, Sk.int IntKind.i64] (List.take 3 (ys0.getD (0 + (IntKind.i64.wrap (i24 - 1)).toNat) []))) (Tr.chk (decide (0 ≤ i24)) (Tr.chk (decide (i24 < (↑n6 : Int))) (Tr.chk true (Tr.chk true (Tr.chk true (Tr.chk (decide (0 + i24.toNat < ys0.length)) (Tr.chk (decide (3 ≤ (ys0.getD (0 + i24.toNat) []).length)) (Tr.chk (shOk [Sk.str, Sk.int IntKind.i64, Sk.int IntKind.i64] (List.take 3 (ys0.getD (0 + i24.toNat) []))) (Tr.br (orderP { p := ((List.take 3 (ys0.getD (0 + (IntKind.i64.wrap (i24 - 1)).toNat) [])).headD C.pnil).st, c := ((List.take 3 (ys0.getD (0 + (IntKind.i64.wrap (i24 - 1)).toNat) [])).tail.headD C.pnil).i, k := ((List.take 3 (ys0.getD (0 + (IntKind.i64.wrap (i24 - 1)).toNat) [])).tail.tail.headD C.pnil).i } { p := ((List.take 3 (ys0.getD (0 + i24.toNat) [])).headD C.pnil).st, c := ((List.take 3 (ys0.getD (0 + i24.toNat) [])).tail.headD C.pnil).i, k := ((List.take 3 (ys0.getD (0 + i24.toNat) [])).tail.tail.headD C.pnil).i } == 0) (Tr.leaf (R.x (x40_0x0 ys0))) (Tr.leaf (R.s (s40_0 n6 i23 (IntKind.i64.wrap (i24 + 1)) ys0)))))))))))))))))))) (Tr.leaf (R.s (s40_0 n6 i23 (IntKind.i64.wrap (i24 + 1)) ys0)))) (Tr.leaf (R.x (x40_0x1 n6 i23 i24 ys0)))) := by kernel_rfl
theorem k40_0x0 (ys0 : List (List C)) : p40.fkx 0 (x40_0x0 ys0) = (Tr.leaf (R.out [V.c (C.sl 3 none false []), V.c (C.int IntKind.i64 16)] [])) := by kernel_rfl
theorem k40_0x1 (n6 : Nat) (i23 : Int) (i24 : Int) (ys0 : List (List C)) : p40.fkx 0 (x40_0x1 n6 i23 i24 ys0) = (Tr.leaf (R.out [V.c (C.sl 3 none false (List.take n6 ys0)), V.c (C.int IntKind.i64 0)] [])) := by kernel_rfl
theorem t40 (nl : Option Bool) (tt : Bool) (xs : List (List C)) (nl2 : Option Bool) (t2 : Bool) (ys : List (List C)) : p40.ft ([V.c (C.sl 3 nl tt xs), V.c (C.sl 3 nl2 t2 ys)]) ([]) = (Tr.chk (isPsts xs) (Tr.chk (decide (xs.length < 4294967296)) (Tr.br (checkP (toPsts xs) != 0) (Tr.leaf (R.out [V.c (C.sl 3 none false []), V.c (C.int IntKind.i64 2)] [])) (Tr.chk (isPsts ys) (Tr.chk (decide (ys.length < 4294967296)) (Tr.br (checkP (toPsts ys) != 0) (Tr.leaf (R.out [V.c (C.sl 3 none false []), V.c (C.int IntKind.i64 2)] [])) (Tr.chk (isPsts xs) (Tr.chk (isPsts ys) (Tr.chk (decide (xs.length + ys.length < 4294967296)) (Tr.chk (isPsts (xs ++ ys)) (Tr.chk (decide (xs.length + ys.length = (xs ++ ys).length)) (Tr.chk (decide ((xs ++ ys).length < 4294967296)) (Tr.chk true (Tr.ls 0 (s40_0 (xs.length + ys.length) ((↑(xs.length + ys.length) : Int)) (0) (psts (sortO (toPsts (xs ++ ys))))))))))))))))))) := by kernel_rfl
noncomputable abbrev p41 : Par := par E sh (ctOf [(82, s82), (83, s83)]) 41 2 0
abbrev s41_0 (nl : Option Bool) (tt : Bool) (xs : List (List C)) (nl2 : Option Bool) (t2 : Bool) (ys : List (List C)) (n6 : Nat) (i7 : Int) (i8 : Int) (ys0 : List (List C)) : Fr × Hp := ([(0, V.c (C.sl 3 nl tt xs)), (1, V.c (C.sl 3 nl2 t2 ys)), (6, V.buf 0 0 0 n6), (7, V.c (C.int IntKind.i64 i7)), (8, V.c (C.int IntKind.i64 i8))], [O.mem 3 0 ys0])
noncomputable abbrev b41_0 : Code := loopAt (codeOf p41.E p41.g) 0
abbrev x41_0x0 (ys0 : List (List C)) : Ex × Fr × Hp := (Ex.ret, [(4, V.c (C.sl 3 (some true) true [])), (5, V.c (C.int IntKind.i64 16))], [O.mem 3 0 ys0])
abbrev x41_0x1 (nl : Option Bool) (tt : Bool) (xs : List (List C)) (nl2 : Option Bool) (t2 : Bool) (ys : List (List C)) (n6 : Nat) (i7 : Int) (i8 : Int) (ys0 : List (List C)) : Ex × Fr × Hp := (Ex.exit 0, [(0, V.c (C.sl 3 nl tt xs)), (1, V.c (C.sl 3 nl2 t2 ys)), (6, V.buf 0 0 0 n6), (7, V.c (C.int IntKind.i64 i7)), (8, V.c (C.int IntKind.i64 i8)), (26, V.c (C.bool false))], [O.mem 3 0 ys0])
theorem t41_0 (nl : Option Bool) (tt : Bool) (xs : List (List C)) (nl2 : Option Bool) (t2 : Bool) (ys : List (List C)) (n6 : Nat) (i7 : Int) (i8 : Int) (ys0 : List (List C)) : p41.lts b41_0 (s41_0 nl tt xs nl2 t2 ys n6 i7 i8 ys0) = (Tr.br (decide (i7 < (↑xs.length : Int))) (Tr.br (i8 == (↑ys.length : Int)) (Tr.chk (decide (0 ≤ i7)) (Tr.chk true (Tr.chk (decide (i7.toNat < xs.length)) (Tr.chk (shOk [Sk.str, Sk.int IntKind.i64, Sk.int IntKind.i64] (xs.getD i7.toNat [])) (Tr.chk true (Tr.chk true (Tr.chk (decide (n6 + 1 < 4294967296)) (Tr.chk true (Tr.leaf (R.s (s41_0 nl tt xs nl2 t2 ys (n6 + 1) (IntKind.i64.wrap (i7 + 1)) i8 (List.take n6 ys0 ++ [[Sk.str.mk ((xs.getD i7.toNat []).headD C.pnil), (Sk.int IntKind.i64).mk ((xs.getD i7.toNat []).tail.headD C.pnil), (Sk.int IntKind.i64).mk ((xs.getD i7.toNat []).tail.tail.headD C.pnil)]])))))))))))) (Tr.br (decide (i7 < (↑xs.length : Int))) (Tr.chk (decide (0 ≤ i7)) (Tr.chk true (Tr.chk (decide (i7.toNat < xs.length)) (Tr.chk (shOk [Sk.str, Sk.int IntKind.i64, Sk.int IntKind.i64] (xs.getD i7.toNat [])) (Tr.chk (decide (0 ≤ i8)) (Tr.chk true (Tr.chk (decide (i8.toNat < ys.length)) (Tr.chk (shOk [Sk.str, Sk.int IntKind.i64, Sk.int IntKind.i64] (ys.getD i8.toNat [])) (Tr.br (lessP { p := ((xs.getD i7.toNat []).headD C.pnil).st, c := ((xs.getD i7.toNat []).tail.headD C.pnil).i, k := ((xs.getD i7.toNat []).tail.tail.headD C.pnil).i } { p := ((ys.getD i8.toNat []).headD C.pnil).st, c := ((ys.getD i8.toNat []).tail.headD C.pnil).i, k := ((ys.getD i8.toNat []).tail.tail.headD C.pnil).i }) (Tr.chk (decide (0 ≤ i7)) (Tr.chk true (Tr.chk (decide (i7.toNat < xs.length)) (Tr.chk (shOk [Sk.str, Sk.int IntKind.i64, Sk.int IntKind.i64] (xs.getD i7.toNat [])) (Tr.chk true (Tr.chk true (Tr.chk (decide (n6 + 1 < 4294967296)) (Tr.chk true (Tr.leaf (R.s (s41_0 nl tt xs nl2 t2 ys (n6 + 1) (IntKind.i64.wrap (i7 + 1)) i8 (List.take n6 ys0 ++ [[Sk.str.mk ((xs.getD i7.toNat []).headD C.pnil), (Sk.int IntKind.i64).mk ((xs.getD i7.toNat []).tail.headD C.pnil), (Sk.int IntKind.i64).mk ((xs.getD i7.toNat []).tail.tail.headD C.pnil)]])))))))))))) (Tr.br (i7 == (↑xs.length : Int)) (Tr.chk (decide (0 ≤ i8)) (Tr.chk true (Tr.chk (decide (i8.toNat < ys.length)) (Tr.chk (shOk [Sk.str, Sk.int IntKind.i64, Sk.int IntKind.i64] (ys.getD i8.toNat [])) (Tr.chk true (Tr.chk true (Tr.chk (decide (n6 + 1 < 4294967296)) (Tr.chk true (Tr.leaf (R.s (s41_0 nl tt xs nl2 t2 ys (n6 + 1) i7 (IntKind.i64.wrap (i8 + 1)) (List.take n6 ys0 ++ [[Sk.str.mk ((ys.getD i8.toNat []).headD C.pnil), (Sk.int IntKind.i64).mk ((ys.getD i8.toNat []).tail.headD C.pnil), (Sk.int IntKind.i64).mk ((ys.getD i8.toNat []).tail.tail.headD C.pnil)]])))))))))))) (Tr.chk (decide (0 ≤ i8)) (Tr.chk true (Tr.chk (decide (i8.toNat < ys.length)) (Tr.chk (shOk [Sk.str, Sk.int IntKind.i64, Sk.int IntKind.i64] (ys.getD i8.toNat [])) (Tr.chk (decide (0 ≤ i7)) (Tr.chk true (Tr.chk (decide (i7.toNat < xs.length)) (Tr.chk (shOk [Sk.str, Sk.int IntKind.i64, Sk.int IntKind.i64] (xs.getD i7.toNat [])) (Tr.br (lessP { p := ((ys.getD i8.toNat []).headD C.pnil).st, c := ((ys.getD i8.toNat []).tail.headD C.pnil).i, k := ((ys.getD i8.toNat []).tail.tail.headD C.pnil).i } { p := ((xs.getD i7.toNat []).headD C.pnil).st, c := ((xs.getD i7.toNat []).tail.headD C.pnil).i, k := ((xs.getD i7.toNat []).tail.tail.headD C.pnil).i }) (Tr.chk (decide (0 ≤ i8)) (Tr.chk true (Tr.chk (decide (i8.toNat < ys.length)) (Tr.chk (shOk [Sk.str, Sk.int IntKind.i64, Sk.int IntKind.i64] (ys.getD i8.toNat [])) (Tr.chk true (Tr.chk true (Tr.chk (decide (n6 + 1 < 4294967296)) (Tr.chk true (Tr.leaf (R.s (s41_0 nl tt xs nl2 t2 ys (n6 + 1) i7 (IntKind.i64.wrap (i8 + 1)) (List.take n6 ys0 ++ [[Sk.str.mk ((ys.getD i8.toNat []).headD C.pnil), (Sk.int IntKind.i64).mk ((ys.getD i8.toNat []).tail.headD C.pnil), (Sk.int IntKind.i64).mk ((ys.getD i8.toNat []).tail.tail.headD C.pnil)]])))))))))))) (Tr.leaf (R.x (x41_0x0 ys0)))))))))))))))))))))) (Tr.br (i7 == (↑xs.length : Int)) (Tr.chk (decide (0 ≤ i8)) (Tr.chk true (Tr.chk (decide (i8.toNat < ys.length)) (Tr.chk (shOk [Sk.str, Sk.int IntKind.i64, Sk.int IntKind.i64] (ys.getD i8.toNat [])) (Tr.chk true (Tr.chk true (Tr.chk (decide (n6 + 1 < 4294967296)) (Tr.chk true (Tr.leaf (R.s (s41_0 nl tt xs nl2 t2 ys (n6 + 1) i7 (IntKind.i64.wrap (i8 + 1)) (List.take n6 ys0 ++ [[Sk.str.mk ((ys.getD i8.toNat []).headD C.pnil), (Sk.int IntKind.i64).mk ((ys.getD i8.toNat []).tail.headD C.pnil), (Sk.int IntKind.i64).mk ((ys.getD i8.toNat []).tail.tail.headD C.pnil)]])))))))))))) (Tr.chk (decide (0 ≤ i8)) (Tr.chk true (Tr.chk (decide (i8.toNat < ys.length)) (Tr.chk (shOk [Sk.str, Sk.int IntKind.i64, Sk.int IntKind.i64] (ys.getD i8.toNat [])) (Tr.chk (decide (0 ≤ i7)) (Tr.chk true (Tr.chk (decide (i7.toNat < xs.length)) (Tr.chk (shOk [Sk.str, Sk.int IntKind.i64, Sk.int IntKind.i64] (xs.getD i7.toNat [])) (Tr.br (lessP { p := ((ys.getD i8.toNat []).headD C.pnil).st, c := ((ys.getD i8.toNat []).tail.headD C.pnil).i, k := ((ys.getD i8.toNat []).tail.tail.headD C.pnil).i } { p := ((xs.getD i7.toNat []).headD C.pnil).st, c := ((xs.getD i7.toNat []).tail.headD C.pnil).i, k := ((xs.getD i7.toNat []).tail.tail.headD C.pnil).i }) (Tr.chk (decide (0 ≤ i8)) (Tr.chk true (Tr.chk (decide (i8.toNat < ys.length)) (Tr.chk (shOk [Sk.str, Sk.int IntKind.i64, Sk.int IntKind.i64] (ys.getD i8.toNat [])) (Tr.chk true (Tr.chk true (Tr.chk (decide (n6 + 1 < 4294967296)) (Tr.chk true (Tr.leaf (R.s (s41_0 nl tt xs nl2 t2 ys (n6 + 1) i7 (IntKind.i64.wrap (i8 + 1)) (List.take n6 ys0 ++ [[Sk.str.mk ((ys.getD i8.toNat []).headD C.pnil), (Sk.int IntKind.i64).mk ((ys.getD i8.toNat []).tail.headD C.pnil), (Sk.int IntKind.i64).mk ((ys.getD i8.toNat []).tail.tail.headD C.pnil)]])))))))))))) (Tr.leaf (R.x (x41_0x0 ys0))))))))))))))) (Tr.br (decide (i8 < (↑ys.length : Int))) (Tr.br (i8 == (↑ys.length : Int)) (Tr.chk (decide (0 ≤ i7)) (Tr.chk true (Tr.chk (decide (i7.toNat < xs.length)) (Tr.chk (shOk [Sk.str, Sk.int IntKind.i64, Sk.int IntKind.i64] (xs.getD i7.toNat [])) (Tr.chk true (Tr.chk true (Tr.chk (decide (n6 + 1 < 4294967296)) (Tr.chk true (Tr.leaf (R.s (s41_0 nl tt xs nl2 t2 ys (n6 + 1) (IntKind.i64.wrap (i7 + 1)) i8 (List.take n6 ys0 ++ [[Sk.str.mk ((xs.getD i7.toNat []).headD C.pnil), (Sk.int IntKind.i64).mk ((xs.getD i7.toNat []).tail.headD C.pnil), (Sk.int IntKind.i64).mk ((xs.getD i7.toNat []).tail.tail.headD C.pnil)]])))))))))))) (Tr.br (decide (i7 < (↑xs.length : Int))) (Tr.chk (decide (0 ≤ i7)) (Tr.chk true (Tr.chk (decide (i7.toNat < xs.length)) (Tr.chk (shOk [Sk.str, Sk.int IntKind.i64, Sk.int IntKind.i64] (xs.getD i7.toNat [])) (Tr.chk (decide (0 ≤ i8)) (Tr.chk true (Tr.chk (decide (i8.toNat < ys.length)) (Tr.chk (shOk [Sk.str, Sk.int IntKind.i64, Sk.int IntKind.i64] (ys.getD i8.toNat [])) (Tr.br (lessP { p := ((xs.getD i7.toNat []).headD C.pnil).st, c := ((xs.getD i7.toNat []).tail.headD C.pnil).i, k := ((xs.getD i7.toNat []).tail.tail.headD C.pnil).i } { p := ((ys.getD i8.toNat []).headD C.pnil).st, c := ((ys.getD i8.toNat []).tail.headD C.pnil).i, k := ((ys.getD i8.toNat []).tail.tail.headD C.pnil).i }) (Tr.chk (decide (0 ≤ i7)) (Tr.chk true (Tr.chk (decide (i7.toNat < xs.length)) (Tr.chk (shOk [Sk.str, Sk.int IntKind.i64, Sk.int IntKind.i64] (xs.getD i7.toNat [])) (Tr.chk true (Tr.chk true (Tr.chk (decide (n6 + 1 < 4294967296)) (Tr.chk true (Tr.leaf (R.s (s41_0 nl tt xs nl2 t2 ys (n6 + 1) (IntKind.i64.wrap (i7 + 1)) i8 (List.take n6 ys0 ++ [[Sk.str.mk ((xs.getD i7.toNat []).headD C.pnil), (Sk.int IntKind.i64).mk ((xs.getD i7.toNat []).tail.headD C.pnil), (Sk.int IntKind.i64).mk ((xs.getD i7.toNat []).tail.tail.headD C.pnil)]])))))))))))) (Tr.br (i7 == (↑xs.length : Int)) (Tr.chk (decide (0 ≤ i8)) (Tr.chk true (Tr.chk (decide (i8.toNat < ys.length)) (Tr.chk (shOk [Sk.str, Sk.int IntKind.i64, Sk.int IntKind.i64] (ys.getD i8.toNat [])) (Tr.chk true (Tr.chk true (Tr.chk (decide (n6 + 1 < 4294967296)) (Tr.chk true (Tr.leaf (R.s (s41_0 nl tt xs nl2 t2 ys (n6 + 1) i7 (IntKind.i64.wrap (i8 + 1)) (List.take n6 ys0 ++ [[Sk.str.mk ((ys.getD i8.toNat []).headD C.pnil), (Sk.int IntKind.i64).mk ((ys.getD i8.toNat []).tail.headD C.pnil), (Sk.int IntKind.i64).mk ((ys.getD i8.toNat []).tail.tail.headD C.pnil)]])))))))))))) (Tr.chk (decide (0 ≤ i8)) (Tr.chk true (Tr.chk (decide (i8.toNat < ys.length)) (Tr.chk (shOk [Sk.str, Sk.int IntKind.i64, Sk.int IntKind.i64] (ys.getD i8.toNat [])) (Tr.chk (decide (0 ≤ i7)) (Tr.chk true (Tr.chk (decide (i7.toNat < xs.length)) (Tr.chk (shOk [Sk.str, Sk.int IntKind.i64, Sk.int IntKind.i64] (xs.getD i7.toNat [])) (Tr.br (lessP { p := ((ys.getD i8.toNat []).headD C.pnil).st, c := ((ys.getD i8.toNat []).tail.headD C.pnil).i, k := ((ys.getD i8.toNat []).tail.tail.headD C.pnil).i } { p := ((xs.getD i7.toNat []).headD C.pnil).st, c := ((xs.getD i7.toNat []).tail.headD C.pnil).i, k := ((xs.getD i7.toNat []).tail.tail.headD C.pnil).i }) (Tr.chk (decide (0 ≤ i8)) (Tr.chk true (Tr.chk (decide (i8.toNat < ys.length)) (Tr.chk (shOk [Sk.str, Sk.int IntKind.i64, Sk.int IntKind.i64] (ys.getD i8.toNat [])) (Tr.chk true (Tr.chk true (Tr.chk (decide (n6 + 1 < 4294967296)) (Tr.chk true (Tr.leaf (R.s (s41_0 nl tt xs nl2 t2 ys (n6 + 1) i7 (IntKind.i64.wrap (i8 + 1)) (List.take n6 ys0 ++ [[Sk.str.mk ((ys.getD i8.toNat []).headD C.pnil), (Sk.int IntKind.i64).mk ((ys.getD i8.toNat []).tail.headD C.pnil), (Sk.int IntKind.i64).mk ((ys.getD i8.toNat []).tail.tail.headD C.pnil)]])))))))))))) (Tr.leaf (R.x (x41_0x0 ys0)))))))))))))))))))))) (Tr.br (i7 == (↑xs.length : Int)) (Tr.chk (decide (0 ≤ i8)) (Tr.chk true (Tr.chk (decide (i8.toNat < ys.length)) (Tr.chk (shOk [Sk.str, Sk.int IntKind.i64, Sk.int IntKind.i64] (ys.getD i8.toNat [])) (Tr.chk true (Tr.chk true (Tr.chk (decide (n6 + 1 < 4294967296)) (Tr.chk true (Tr.leaf (R.s (s41_0 nl tt xs nl2 t2 ys (n6 + 1) i7 (IntKind.i64.wrap (i8 + 1)) (List.take n6 ys0 ++ [[Sk.str.mk ((ys.getD i8.toNat []).headD C.pnil), (Sk.int IntKind.i64).mk ((ys.getD i8.toNat []).tail.headD C.pnil), (Sk.int IntKind.i64).mk ((ys.getD i8.toNat []).tail.tail.headD C.pnil)]])))))))))))) (Tr.chk (decide (0 ≤ i8)) (Tr.chk true (Tr.chk (decide (i8.toNat < ys.length)) (Tr.chk (shOk [Sk.str, Sk.int IntKind.i64, Sk.int IntKind.i64] (ys.getD i8.toNat [])) (Tr.chk (decide (0 ≤ i7)) (Tr.chk true (Tr.chk (decide (i7.toNat < xs.length)) (Tr.chk (shOk [Sk.str, Sk.int IntKind.i64, Sk.int IntKind.i64] (xs.getD i7.toNat [])) (Tr.br (lessP { p := ((ys.getD i8.toNat []).headD C.pnil).st, c := ((ys.getD i8.toNat []).tail.headD C.pnil).i, k := ((ys.getD i8.toNat []).tail.tail.headD C.pnil).i } { p := ((xs.getD i7.toNat []).headD C.pnil).st, c := ((xs.getD i7.toNat []).tail.headD C.pnil).i, k := ((xs.getD i7.toNat []).tail.tail.headD C.pnil).i }) (Tr.chk (decide (0 ≤ i8)) (Tr.chk true (Tr.chk (decide (i8.toNat < ys.length)) (Tr.chk (shOk [Sk.str, Sk.int IntKind.i64, Sk.int IntKind.i64] (ys.getD i8.toNat [])) (Tr.chk true (Tr.chk true (Tr.chk (decide (n6 + 1 < 4294967296)) (Tr.chk true (Tr.leaf (R.s (s41_0 nl tt xs nl2 t2 ys (n6 + 1) i7 (IntKind.i64.wrap (i8 + 1)) (List.take n6 ys0 ++ [[Sk.str.mk ((ys.getD i8.toNat []).headD C.pnil), (Sk.int IntKind.i64).mk ((ys.getD i8.toNat []).tail.headD C.pnil), (Sk.int IntKind.i64).mk ((ys.getD i8.toNat []).tail.tail.headD C.pnil)]])))))))))))) (Tr.leaf (R.x (x41_0x0 ys0))))))))))))))) (Tr.leaf (R.x (x41_0x1 nl tt xs nl2 t2 ys n6 i7 i8 ys0))))) := by kernel_rfl
theorem k41_0x0 (ys0 : List (List C)) : p41.fkx 0 (x41_0x0 ys0) = (Tr.leaf (R.out [V.c (C.sl 3 none false []), V.c (C.int IntKind.i64 16)] [])) := by kernel_rfl
theorem k41_0x1 (nl : Option Bool) (tt : Bool) (xs : List (List C)) (nl2 : Option Bool) (t2 : Bool) (ys : List (List C)) (n6 : Nat) (i7 : Int) (i8 : Int) (ys0 : List (List C)) : p41.fkx 0 (x41_0x1 nl tt xs nl2 t2 ys n6 i7 i8 ys0) = (Tr.leaf (R.out [V.c (C.sl 3 none false (List.take n6 ys0)), V.c (C.int IntKind.i64 0)] [])) := by kernel_rfl
theorem t41 (nl : Option Bool) (tt : Bool) (xs : List (List C)) (nl2 : Option Bool) (t2 : Bool) (ys : List (List C)) : p41.ft ([V.c (C.sl 3 nl tt xs), V.c (C.sl 3 nl2 t2 ys)]) ([]) = (Tr.chk (isPsts xs) (Tr.chk (decide (xs.length < 4294967296)) (Tr.br (!okP (toPsts xs)) (Tr.leaf (R.out [V.c (C.sl 3 none false []), V.c (C.int IntKind.i64 2)] [])) (Tr.chk (isPsts ys) (Tr.chk (decide (ys.length < 4294967296)) (Tr.br (!okP (toPsts ys)) (Tr.leaf (R.out [V.c (C.sl 3 none false []), V.c (C.int IntKind.i64 2)] [])) (Tr.ls 0 (s41_0 nl tt xs nl2 t2 ys (0) (0) (0) ([]))))))))) := by kernel_rfl
noncomputable abbrev p44 : Par := par E sh (ctOf [(82, s82)]) 44 1 0
theorem t44 (nl : Option Bool) (tt : Bool) (xs : List (List C)) : p44.ft ([V.c (C.sl 3 nl tt xs)]) ([]) = (Tr.chk (isPsts xs) (Tr.chk (decide (xs.length < 4294967296)) (Tr.br (!okP (toPsts xs)) (Tr.leaf (R.out [V.c (C.int IntKind.i64 2)] [])) (Tr.leaf (R.out [V.c (C.int IntKind.i64 0)] []))))) := by kernel_rfl
end Go.Proofs.YtbilmkcdhodenaaDoor

end

/-
  Chapter 13 (posting): Concat, Add, the reference's Add and Check.
-/
section
namespace Go.Proofs.YtbilmkcdhodenaaDoor
open Go Go.Ev

theorem s43_ok : CSpecOk E 43 s43 := by
  intro a h cs vals h' he hc
  unfold s43 at he
  split at he <;> simp only [Option.some.injEq, Prod.mk.injEq, reduceCtorEq] at he
  rename_i nl tt xs
  obtain ⟨rfl, rfl, rfl⟩ := he
  simp only [allT, Bool.and_true, Bool.and_eq_true, decide_eq_true_eq] at hc
  obtain ⟨l, rfl⟩ := psts_ex hc.1
  rw [toPsts_psts]
  exact f43 l nl tt (by simpa using hc.2)
theorem s82_ok : CSpecOk E 82 s82 := by
  intro a h cs vals h' he hc
  unfold s82 at he
  split at he <;> simp only [Option.some.injEq, Prod.mk.injEq, reduceCtorEq] at he
  rename_i nl tt xs
  obtain ⟨rfl, rfl, rfl⟩ := he
  simp only [allT, Bool.and_true, Bool.and_eq_true, decide_eq_true_eq] at hc
  obtain ⟨l, rfl⟩ := psts_ex hc.1
  rw [toPsts_psts]
  exact f82 l nl tt (by simpa using hc.2)
theorem f44 (l : List Pst) (nl : Option Bool) (tt : Bool) (hl : l.length < 4294967296) : call E 44 [.c (.sl 3 nl tt (psts l))] [] = some ([V.i (checkP l)], []) := by
  refine call_of (E := E) (sh := sh) (ct := ctOf [(82, s82)]) (na := 1) (m := 0) (ctOf_cons s82_ok ctOf_nil) rfl rfl rfl rfl rfl rfl ?_
  rw [t44]
  simp only [psts_length, eo_ok, eo_ok', isPsts_psts, toPsts_psts, psts_take, psts_drop, psts_append, psts_snoc, psts_snoc', eo_p, eo_c, eo_k, eo_len, toPsts_length, dO_eo, eo_mk, ld_br, ld_chk', ld_leaf, fd_br, fd_chk', fd_leaf, decide_true, decide_eq_true_eq, if_true, Int.toNat_natCast, Int.natCast_nonneg, Int.ofNat_lt, Int.ofNat_le, Bool.false_eq_true, if_false, bne_iff_ne, beq_iff_eq, ne_eq, not_true_eq_false, not_false_eq_true, Bool.not_eq_true', decide_eq_false_iff_not, reduceCtorEq, rows_length, pcs_length, er_ok, er_ok', ep_ok, ep_ok', dr_er, dp_ep, isRows_rows, isPcs_pcs, toRows_rows, toPcs_pcs, rows_take, rows_drop, pcs_take, pcs_drop, rows_append, pcs_append, ints_length, isInts_ints, toInts_ints, ei_i, ei_ok, mk_headD, ints_take, ints_drop, ints_append, ints_snoc, ints_snoc', List.take_length, Nat.zero_add, Nat.le_refl, er_a, er_b, er_k, er_n, er_s, er_v, ep_a, ep_b, ep_hk, ep_hn, ep_hs, ep_wk, ep_wn, ep_ws, hl, checkP]
  cases okP l <;> simp
theorem f79' (l m : List Pst) (n0 : Option Bool) (t0 : Bool) (nl : Option Bool) (tt : Bool) (nl2 : Option Bool) (t2 : Bool) (h : l.length + m.length < 4294967296) : call E 79 [.c (.sl 1 n0 t0 [[.sl 3 nl tt (psts l)], [.sl 3 nl2 t2 (psts m)]])] [] = some ([.buf 0 0 0 (l.length + m.length)], [.mem 3 0 (psts (l ++ m))]) := by
  have hct : (ctOf [(123, s123)]).ok E := ctOf_cons s123_ok ctOf_nil
  refine call_of (E := E) (sh := sh) (ct := ctOf [(123, s123)]) (na := 1) (m := 0) hct rfl rfl rfl rfl rfl rfl ?_
  rw [t79]
  obtain ⟨zs, hz⟩ : ∃ zs : List (List C), zs = [[.sl 3 nl tt (psts l)], [.sl 3 nl2 t2 (psts m)]] := ⟨_, rfl⟩
  rw [← hz]
  have z2 : zs.length = 2 := by rw [hz]; rfl
  have g0 : zs.getD 0 [] = [.sl 3 nl tt (psts l)] := by rw [hz]; rfl
  have g1 : zs.getD 1 [] = [.sl 3 nl2 t2 (psts m)] := by rw [hz]; rfl
  refine fd_post hct (by kernel_rfl) rfl (list_post hct (b := b79_0) 2 (fun k (_ : Unit) => s79_0 n0 t0 zs (if k = 0 then 0 else if k = 1 then (l.length : Int) else ((l.length + m.length : Nat) : Int)) zs 2 k) (fun _ _ => True) _ ?_ ?_ 0 (Nat.zero_le _) () trivial)
  · rintro k _ hk _
    refine .inl ⟨(), trivial, ?_⟩
    rw [t79_0]
    rcases (show k = 0 ∨ k = 1 by omega) with rfl | rfl
    · have w1 : IntKind.wrap .i64 (0 + (l.length : Int)) = (l.length : Int) := by rw [wrap_same (by omega) (by omega)]; omega
      simp only [psts_length, eo_ok, eo_ok', isPsts_psts, toPsts_psts, psts_take, psts_drop, psts_append, psts_snoc, psts_snoc', eo_p, eo_c, eo_k, eo_len, toPsts_length, dO_eo, eo_mk, ld_br, ld_chk', ld_leaf, fd_br, fd_chk', fd_leaf, decide_true, decide_eq_true_eq, if_true, Int.toNat_natCast, Int.natCast_nonneg, Int.ofNat_lt, Int.ofNat_le, Bool.false_eq_true, if_false, bne_iff_ne, beq_iff_eq, ne_eq, not_true_eq_false, not_false_eq_true, Bool.not_eq_true', decide_eq_false_iff_not, reduceCtorEq, rows_length, pcs_length, er_ok, er_ok', ep_ok, ep_ok', dr_er, dp_ep, isRows_rows, isPcs_pcs, toRows_rows, toPcs_pcs, rows_take, rows_drop, pcs_take, pcs_drop, rows_append, pcs_append, ints_length, isInts_ints, toInts_ints, ei_i, ei_ok, mk_headD, ints_take, ints_drop, ints_append, ints_snoc, ints_snoc', List.take_length, Nat.zero_add, Nat.le_refl, er_a, er_b, er_k, er_n, er_s, er_v, ep_a, ep_b, ep_hk, ep_hn, ep_hs, ep_wk, ep_wn, ep_ws, g0, z2, List.headD_cons, C.xs, w1, show shOk [Sk.slx 3] [C.sl 3 nl tt (psts l)] = true from rfl]
      simp
      rfl
    · have w1 : IntKind.wrap .i64 ((l.length : Int) + (m.length : Int)) = ((l.length + m.length : Nat) : Int) := by rw [wrap_same (by omega) (by omega)]; omega
      simp only [psts_length, eo_ok, eo_ok', isPsts_psts, toPsts_psts, psts_take, psts_drop, psts_append, psts_snoc, psts_snoc', eo_p, eo_c, eo_k, eo_len, toPsts_length, dO_eo, eo_mk, ld_br, ld_chk', ld_leaf, fd_br, fd_chk', fd_leaf, decide_true, decide_eq_true_eq, if_true, Int.toNat_natCast, Int.natCast_nonneg, Int.ofNat_lt, Int.ofNat_le, Bool.false_eq_true, if_false, bne_iff_ne, beq_iff_eq, ne_eq, not_true_eq_false, not_false_eq_true, Bool.not_eq_true', decide_eq_false_iff_not, reduceCtorEq, rows_length, pcs_length, er_ok, er_ok', ep_ok, ep_ok', dr_er, dp_ep, isRows_rows, isPcs_pcs, toRows_rows, toPcs_pcs, rows_take, rows_drop, pcs_take, pcs_drop, rows_append, pcs_append, ints_length, isInts_ints, toInts_ints, ei_i, ei_ok, mk_headD, ints_take, ints_drop, ints_append, ints_snoc, ints_snoc', List.take_length, Nat.zero_add, Nat.le_refl, er_a, er_b, er_k, er_n, er_s, er_v, ep_a, ep_b, ep_hk, ep_hn, ep_hs, ep_wk, ep_wn, ep_ws, g1, z2, List.headD_cons, C.xs, w1, show shOk [Sk.slx 3] [C.sl 3 nl2 t2 (psts m)] = true from rfl]
      simp
      rfl
  · rintro _ _
    rw [t79_0]
    refine ⟨x79_0x0 n0 t0 zs ((l.length + m.length : Nat) : Int) zs 2 2, by simp, ?_, by simp only [psts_length, eo_ok, eo_ok', isPsts_psts, toPsts_psts, psts_take, psts_drop, psts_append, psts_snoc, psts_snoc', eo_p, eo_c, eo_k, eo_len, toPsts_length, dO_eo, eo_mk, ld_br, ld_chk', ld_leaf, fd_br, fd_chk', fd_leaf, decide_true, decide_eq_true_eq, if_true, Int.toNat_natCast, Int.natCast_nonneg, Int.ofNat_lt, Int.ofNat_le, Bool.false_eq_true, if_false, bne_iff_ne, beq_iff_eq, ne_eq, not_true_eq_false, not_false_eq_true, Bool.not_eq_true', decide_eq_false_iff_not, reduceCtorEq, rows_length, pcs_length, er_ok, er_ok', ep_ok, ep_ok', dr_er, dp_ep, isRows_rows, isPcs_pcs, toRows_rows, toPcs_pcs, rows_take, rows_drop, pcs_take, pcs_drop, rows_append, pcs_append, ints_length, isInts_ints, toInts_ints, ei_i, ei_ok, mk_headD, ints_take, ints_drop, ints_append, ints_snoc, ints_snoc', List.take_length, Nat.zero_add, Nat.le_refl, er_a, er_b, er_k, er_n, er_s, er_v, ep_a, ep_b, ep_hk, ep_hn, ep_hs, ep_wk, ep_wn, ep_ws]; simp⟩
    rw [k79_0x0]
    simp only [psts_length, eo_ok, eo_ok', isPsts_psts, toPsts_psts, psts_take, psts_drop, psts_append, psts_snoc, psts_snoc', eo_p, eo_c, eo_k, eo_len, toPsts_length, dO_eo, eo_mk, ld_br, ld_chk', ld_leaf, fd_br, fd_chk', fd_leaf, decide_true, decide_eq_true_eq, if_true, Int.toNat_natCast, Int.natCast_nonneg, Int.ofNat_lt, Int.ofNat_le, Bool.false_eq_true, if_false, bne_iff_ne, beq_iff_eq, ne_eq, not_true_eq_false, not_false_eq_true, Bool.not_eq_true', decide_eq_false_iff_not, reduceCtorEq, rows_length, pcs_length, er_ok, er_ok', ep_ok, ep_ok', dr_er, dp_ep, isRows_rows, isPcs_pcs, toRows_rows, toPcs_pcs, rows_take, rows_drop, pcs_take, pcs_drop, rows_append, pcs_append, ints_length, isInts_ints, toInts_ints, ei_i, ei_ok, mk_headD, ints_take, ints_drop, ints_append, ints_snoc, ints_snoc', List.take_length, Nat.zero_add, Nat.le_refl, er_a, er_b, er_k, er_n, er_s, er_v, ep_a, ep_b, ep_hk, ep_hn, ep_hs, ep_wk, ep_wn, ep_ws, h, show ((l.length + m.length : Nat) : Int) < 4294967296 by omega]
    refine fd_post hct (by kernel_rfl) rfl (list_post hct (b := b79_1) 2 (fun k (_ : Unit) => s79_1 n0 t0 zs (if k = 0 then 0 else if k = 1 then l.length else l.length + m.length) zs.length k (if k = 0 then [] else if k = 1 then psts l else psts (l ++ m))) (fun _ _ => True) _ ?_ ?_ 0 (Nat.zero_le _) () trivial)
    · rintro k _ hk _
      refine .inl ⟨(), trivial, ?_⟩
      rw [t79_1]
      rcases (show k = 0 ∨ k = 1 by omega) with rfl | rfl
      · simp only [psts_length, eo_ok, eo_ok', isPsts_psts, toPsts_psts, psts_take, psts_drop, psts_append, psts_snoc, psts_snoc', eo_p, eo_c, eo_k, eo_len, toPsts_length, dO_eo, eo_mk, ld_br, ld_chk', ld_leaf, fd_br, fd_chk', fd_leaf, decide_true, decide_eq_true_eq, if_true, Int.toNat_natCast, Int.natCast_nonneg, Int.ofNat_lt, Int.ofNat_le, Bool.false_eq_true, if_false, bne_iff_ne, beq_iff_eq, ne_eq, not_true_eq_false, not_false_eq_true, Bool.not_eq_true', decide_eq_false_iff_not, reduceCtorEq, rows_length, pcs_length, er_ok, er_ok', ep_ok, ep_ok', dr_er, dp_ep, isRows_rows, isPcs_pcs, toRows_rows, toPcs_pcs, rows_take, rows_drop, pcs_take, pcs_drop, rows_append, pcs_append, ints_length, isInts_ints, toInts_ints, ei_i, ei_ok, mk_headD, ints_take, ints_drop, ints_append, ints_snoc, ints_snoc', List.take_length, Nat.zero_add, Nat.le_refl, er_a, er_b, er_k, er_n, er_s, er_v, ep_a, ep_b, ep_hk, ep_hn, ep_hs, ep_wk, ep_wn, ep_ws, g0, z2, List.headD_cons, C.xs, show shOk [Sk.slx 3] [C.sl 3 nl tt (psts l)] = true from rfl, show l.length < 4294967296 by omega]
        simp [show l.length < 4294967296 by omega]
        rfl
      · have ht : List.take l.length (psts l) = psts l := by rw [← psts_length l, List.take_length]
        simp only [psts_length, eo_ok, eo_ok', isPsts_psts, toPsts_psts, psts_take, psts_drop, psts_append, psts_snoc, psts_snoc', eo_p, eo_c, eo_k, eo_len, toPsts_length, dO_eo, eo_mk, ld_br, ld_chk', ld_leaf, fd_br, fd_chk', fd_leaf, decide_true, decide_eq_true_eq, if_true, Int.toNat_natCast, Int.natCast_nonneg, Int.ofNat_lt, Int.ofNat_le, Bool.false_eq_true, if_false, bne_iff_ne, beq_iff_eq, ne_eq, not_true_eq_false, not_false_eq_true, Bool.not_eq_true', decide_eq_false_iff_not, reduceCtorEq, rows_length, pcs_length, er_ok, er_ok', ep_ok, ep_ok', dr_er, dp_ep, isRows_rows, isPcs_pcs, toRows_rows, toPcs_pcs, rows_take, rows_drop, pcs_take, pcs_drop, rows_append, pcs_append, ints_length, isInts_ints, toInts_ints, ei_i, ei_ok, mk_headD, ints_take, ints_drop, ints_append, ints_snoc, ints_snoc', List.take_length, Nat.zero_add, Nat.le_refl, er_a, er_b, er_k, er_n, er_s, er_v, ep_a, ep_b, ep_hk, ep_hn, ep_hs, ep_wk, ep_wn, ep_ws, g1, z2, List.headD_cons, C.xs, show shOk [Sk.slx 3] [C.sl 3 nl2 t2 (psts m)] = true from rfl, h]
        simp [h]
        rfl
    · rintro _ _
      rw [t79_1]
      refine ⟨x79_1x0 n0 t0 zs (l.length + m.length) zs.length 2 (psts (l ++ m)), by simp, ?_, by simp only [psts_length, eo_ok, eo_ok', isPsts_psts, toPsts_psts, psts_take, psts_drop, psts_append, psts_snoc, psts_snoc', eo_p, eo_c, eo_k, eo_len, toPsts_length, dO_eo, eo_mk, ld_br, ld_chk', ld_leaf, fd_br, fd_chk', fd_leaf, decide_true, decide_eq_true_eq, if_true, Int.toNat_natCast, Int.natCast_nonneg, Int.ofNat_lt, Int.ofNat_le, Bool.false_eq_true, if_false, bne_iff_ne, beq_iff_eq, ne_eq, not_true_eq_false, not_false_eq_true, Bool.not_eq_true', decide_eq_false_iff_not, reduceCtorEq, rows_length, pcs_length, er_ok, er_ok', ep_ok, ep_ok', dr_er, dp_ep, isRows_rows, isPcs_pcs, toRows_rows, toPcs_pcs, rows_take, rows_drop, pcs_take, pcs_drop, rows_append, pcs_append, ints_length, isInts_ints, toInts_ints, ei_i, ei_ok, mk_headD, ints_take, ints_drop, ints_append, ints_snoc, ints_snoc', List.take_length, Nat.zero_add, Nat.le_refl, er_a, er_b, er_k, er_n, er_s, er_v, ep_a, ep_b, ep_hk, ep_hn, ep_hs, ep_wk, ep_wn, ep_ws, z2]; simp⟩
      rw [k79_1x0]; rfl
theorem s79_ok : CSpecOk E 79 s79 := by
  intro a h cs vals h' he hc
  unfold s79 at he
  split at he <;> simp only [Option.some.injEq, Prod.mk.injEq, reduceCtorEq] at he
  rename_i _ _ nl tt xs nl2 t2 ys
  obtain ⟨rfl, rfl, rfl⟩ := he
  simp only [allT, Bool.and_true, Bool.and_eq_true, decide_eq_true_eq] at hc
  obtain ⟨h1, h2, h3⟩ := hc
  obtain ⟨l, rfl⟩ := psts_ex h1
  obtain ⟨m, rfl⟩ := psts_ex h2
  simp only [psts_length, psts_append] at *
  exact f79' l m _ _ nl tt nl2 t2 h3
theorem checkP_ne (l : List Pst) : (checkP l != 0) = !okP l := by
  unfold checkP; cases okP l <;> rfl
theorem eo_take (x : Pst) : List.take 3 (eo x) = eo x := rfl
theorem addP_bad {l m : List Pst} (h : ¬ (okP l = true ∧ okP m = true)) : addP l m = ([], 2) := by
  unfold addP; rw [if_neg h]
theorem f40 (l m : List Pst) (nl : Option Bool) (tt : Bool) (nl2 : Option Bool) (t2 : Bool) (h : l.length + m.length < 4294967296) : call E 40 [.c (.sl 3 nl tt (psts l)), .c (.sl 3 nl2 t2 (psts m))] [] = some ([.c (.sl 3 none false (psts (addP l m).1)), V.i (addP l m).2], []) := by
  have hct : (ctOf [(43, s43), (79, s79), (80, s80), (81, s81)]).ok E := ctOf_cons s43_ok (ctOf_cons s79_ok (ctOf_cons s80_ok (ctOf_cons s81_ok ctOf_nil)))
  refine call_of (E := E) (sh := sh) (ct := ctOf [(43, s43), (79, s79), (80, s80), (81, s81)]) (na := 2) (m := 0) hct rfl rfl rfl rfl rfl rfl ?_
  rw [t40]
  simp only [psts_length, eo_ok, eo_ok', isPsts_psts, toPsts_psts, psts_take, psts_drop, psts_append, psts_snoc, psts_snoc', eo_p, eo_c, eo_k, eo_len, toPsts_length, dO_eo, eo_mk, ld_br, ld_chk', ld_leaf, fd_br, fd_chk', fd_leaf, decide_true, decide_eq_true_eq, if_true, Int.toNat_natCast, Int.natCast_nonneg, Int.ofNat_lt, Int.ofNat_le, Bool.false_eq_true, if_false, bne_iff_ne, beq_iff_eq, ne_eq, not_true_eq_false, not_false_eq_true, Bool.not_eq_true', decide_eq_false_iff_not, reduceCtorEq, rows_length, pcs_length, er_ok, er_ok', ep_ok, ep_ok', dr_er, dp_ep, isRows_rows, isPcs_pcs, toRows_rows, toPcs_pcs, rows_take, rows_drop, pcs_take, pcs_drop, rows_append, pcs_append, ints_length, isInts_ints, toInts_ints, ei_i, ei_ok, mk_headD, ints_take, ints_drop, ints_append, ints_snoc, ints_snoc', List.take_length, Nat.zero_add, Nat.le_refl, er_a, er_b, er_k, er_n, er_s, er_v, ep_a, ep_b, ep_hk, ep_hn, ep_hs, ep_wk, ep_wn, ep_ws, show l.length < 4294967296 by omega, show m.length < 4294967296 by omega, h, checkP_ne, List.length_append]
  by_cases hl : okP l = true
  · by_cases hm : okP m = true
    · simp only [hl, hm, Bool.true_eq_false, if_false]
      rw [addP_sort hl hm (by omega)]
      have hn := sortO_len (l ++ m) (by simp; omega)
      rw [List.length_append] at hn
      generalize sortO (l ++ m) = s at *
      refine fd_post hct (by kernel_rfl) rfl (list_post hct (b := b40_0) (l.length + m.length) (fun k (_ : Unit) => s40_0 (l.length + m.length) ((l.length + m.length : Nat) : Int) k (psts s)) (fun k _ => twiceP (s.drop (k - 1)) = twiceP s) _ ?_ ?_ 0 (Nat.zero_le _) () rfl)
      · rintro k _ hk hi
        rw [t40_0]
        simp only [psts_length, eo_ok, eo_ok', isPsts_psts, toPsts_psts, psts_take, psts_drop, psts_append, psts_snoc, psts_snoc', eo_p, eo_c, eo_k, eo_len, toPsts_length, dO_eo, eo_mk, ld_br, ld_chk', ld_leaf, fd_br, fd_chk', fd_leaf, decide_true, decide_eq_true_eq, if_true, Int.toNat_natCast, Int.natCast_nonneg, Int.ofNat_lt, Int.ofNat_le, Bool.false_eq_true, if_false, bne_iff_ne, beq_iff_eq, ne_eq, not_true_eq_false, not_false_eq_true, Bool.not_eq_true', decide_eq_false_iff_not, reduceCtorEq, rows_length, pcs_length, er_ok, er_ok', ep_ok, ep_ok', dr_er, dp_ep, isRows_rows, isPcs_pcs, toRows_rows, toPcs_pcs, rows_take, rows_drop, pcs_take, pcs_drop, rows_append, pcs_append, ints_length, isInts_ints, toInts_ints, ei_i, ei_ok, mk_headD, ints_take, ints_drop, ints_append, ints_snoc, ints_snoc', List.take_length, Nat.zero_add, Nat.le_refl, er_a, er_b, er_k, er_n, er_s, er_v, ep_a, ep_b, ep_hk, ep_hn, ep_hs, ep_wk, ep_wn, ep_ws, hk, Int.ofNat_lt, wrap_succ (show k < 9223372036854775807 by omega)]
        cases k with
        | zero =>
          exact .inl ⟨(), by rw [← hi], by simp⟩
        | succ k =>
          have hk' : k < l.length + m.length := by omega
          have hs1 : k + 1 < s.length := by omega
          have hs0 : k < s.length := by omega
          rw [Nat.add_sub_cancel, twice_step hs1] at hi
          simp only [wrap_pred (show 0 < k + 1 by omega) (show k + 1 < 9223372036854775807 by omega), Nat.add_sub_cancel, psts_length, eo_ok, eo_ok', isPsts_psts, toPsts_psts, psts_take, psts_drop, psts_append, psts_snoc, psts_snoc', eo_p, eo_c, eo_k, eo_len, toPsts_length, dO_eo, eo_mk, ld_br, ld_chk', ld_leaf, fd_br, fd_chk', fd_leaf, decide_true, decide_eq_true_eq, if_true, Int.toNat_natCast, Int.natCast_nonneg, Int.ofNat_lt, Int.ofNat_le, Bool.false_eq_true, if_false, bne_iff_ne, beq_iff_eq, ne_eq, not_true_eq_false, not_false_eq_true, Bool.not_eq_true', decide_eq_false_iff_not, reduceCtorEq, rows_length, pcs_length, er_ok, er_ok', ep_ok, ep_ok', dr_er, dp_ep, isRows_rows, isPcs_pcs, toRows_rows, toPcs_pcs, rows_take, rows_drop, pcs_take, pcs_drop, rows_append, pcs_append, ints_length, isInts_ints, toInts_ints, ei_i, ei_ok, mk_headD, ints_take, ints_drop, ints_append, ints_snoc, ints_snoc', List.take_length, Nat.zero_add, Nat.le_refl, er_a, er_b, er_k, er_n, er_s, er_v, ep_a, ep_b, ep_hk, ep_hn, ep_hs, ep_wk, ep_wn, ep_ws, hk', psts_getD hs0, psts_getD hs1, hs0, hs1, show (0 : Int) < ((k + 1 : Nat) : Int) by omega, eo_take, pst_eta]
          by_cases g : orderP s[k] s[k + 1] = 0
          · refine .inr ⟨x40_0x0 (psts s), by simp, ?_, by simp [g]⟩
            rw [g] at hi
            simp only [decide_true, Bool.true_or] at hi
            rw [k40_0x0, fd_leaf, ← hi]; rfl
          · refine .inl ⟨(), ?_, by simp [g]⟩
            rw [← hi]; simp [g]
      · rintro _ hi
        rw [t40_0]
        refine ⟨x40_0x1 (l.length + m.length) ((l.length + m.length : Nat) : Int) ((l.length + m.length : Nat) : Int) (psts s), by simp, ?_, by simp only [psts_length, eo_ok, eo_ok', isPsts_psts, toPsts_psts, psts_take, psts_drop, psts_append, psts_snoc, psts_snoc', eo_p, eo_c, eo_k, eo_len, toPsts_length, dO_eo, eo_mk, ld_br, ld_chk', ld_leaf, fd_br, fd_chk', fd_leaf, decide_true, decide_eq_true_eq, if_true, Int.toNat_natCast, Int.natCast_nonneg, Int.ofNat_lt, Int.ofNat_le, Bool.false_eq_true, if_false, bne_iff_ne, beq_iff_eq, ne_eq, not_true_eq_false, not_false_eq_true, Bool.not_eq_true', decide_eq_false_iff_not, reduceCtorEq, rows_length, pcs_length, er_ok, er_ok', ep_ok, ep_ok', dr_er, dp_ep, isRows_rows, isPcs_pcs, toRows_rows, toPcs_pcs, rows_take, rows_drop, pcs_take, pcs_drop, rows_append, pcs_append, ints_length, isInts_ints, toInts_ints, ei_i, ei_ok, mk_headD, ints_take, ints_drop, ints_append, ints_snoc, ints_snoc', List.take_length, Nat.zero_add, Nat.le_refl, er_a, er_b, er_k, er_n, er_s, er_v, ep_a, ep_b, ep_hk, ep_hn, ep_hs, ep_wk, ep_wn, ep_ws, Int.lt_irrefl]⟩
        rw [twice_end (by omega)] at hi
        rw [k40_0x1, fd_leaf, ← hi]
        have ht : List.take (l.length + m.length) (psts s) = psts s := by rw [← hn, ← psts_length s, List.take_length]
        rw [ht]; rfl
    · rw [addP_bad (fun hh => hm hh.2)]
      rw [Bool.not_eq_true] at hm
      simp only [hl, hm, Bool.true_eq_false, if_false, if_true]; rfl
  · rw [addP_bad (fun hh => hl hh.1)]
    rw [Bool.not_eq_true] at hl
    simp only [hl, if_true]; rfl
theorem merge_step {l m : List Pst} {i k : Nat} (hi : i < l.length) (hk : k < m.length) (acc : List Pst) :
    resA acc (mergeP (l.length + m.length - (i + k)) (l.drop i) (m.drop k)) = if lessP l[i] m[k] = true then resA (acc ++ [l[i]]) (mergeP (l.length + m.length - (i + 1 + k)) (l.drop (i + 1)) (m.drop k)) else if lessP m[k] l[i] = true then resA (acc ++ [m[k]]) (mergeP (l.length + m.length - (i + (k + 1))) (l.drop i) (m.drop (k + 1))) else ([], 16) := by
  have e : l.length + m.length - (i + k) = (l.length + m.length - (i + 1 + k)) + 1 := by omega
  rw [e, List.drop_eq_getElem_cons hi, List.drop_eq_getElem_cons hk, mergeP]
  split
  · rw [resA_map]
  · split
    · rw [resA_map, show i + (k + 1) = i + 1 + k by omega]
    · rfl
theorem merge_left {l m : List Pst} {i k : Nat} (hi : i < l.length) (hk : m.length ≤ k) (acc : List Pst) :
    resA acc (mergeP (l.length + m.length - (i + k)) (l.drop i) (m.drop k)) = resA (acc ++ [l[i]]) (mergeP (l.length + m.length - (i + 1 + k)) (l.drop (i + 1)) (m.drop k)) ∨ m.length < k := by
  rcases Nat.lt_or_ge m.length k with h | h
  · exact .inr h
  · left
    rw [List.drop_of_length_le hk, mergeP_nil_r _ _ (by simp; omega), mergeP_nil_r _ _ (by simp; omega), List.drop_eq_getElem_cons hi]
    simp [resA]
theorem merge_right {l m : List Pst} {k : Nat} (hk : k < m.length) (acc : List Pst) :
    resA acc (mergeP (l.length + m.length - (l.length + k)) (l.drop l.length) (m.drop k)) = resA (acc ++ [m[k]]) (mergeP (l.length + m.length - (l.length + (k + 1))) (l.drop l.length) (m.drop (k + 1))) := by
  rw [List.drop_length, mergeP_nil_l _ _ (by simp; omega), mergeP_nil_l _ _ (by simp; omega), List.drop_eq_getElem_cons hk]
  simp [resA]
theorem f41 (l m : List Pst) (nl : Option Bool) (tt : Bool) (nl2 : Option Bool) (t2 : Bool) (h : l.length + m.length < 4294967296) : call E 41 [.c (.sl 3 nl tt (psts l)), .c (.sl 3 nl2 t2 (psts m))] [] = some ([.c (.sl 3 none false (psts (addP l m).1)), V.i (addP l m).2], []) := by
  have hct : (ctOf [(82, s82), (83, s83)]).ok E := ctOf_cons s82_ok (ctOf_cons s83_ok ctOf_nil)
  refine call_of (E := E) (sh := sh) (ct := ctOf [(82, s82), (83, s83)]) (na := 2) (m := 0) hct rfl rfl rfl rfl rfl rfl ?_
  rw [t41]
  simp only [psts_length, eo_ok, eo_ok', isPsts_psts, toPsts_psts, psts_take, psts_drop, psts_append, psts_snoc, psts_snoc', eo_p, eo_c, eo_k, eo_len, toPsts_length, dO_eo, eo_mk, ld_br, ld_chk', ld_leaf, fd_br, fd_chk', fd_leaf, decide_true, decide_eq_true_eq, if_true, Int.toNat_natCast, Int.natCast_nonneg, Int.ofNat_lt, Int.ofNat_le, Bool.false_eq_true, if_false, bne_iff_ne, beq_iff_eq, ne_eq, not_true_eq_false, not_false_eq_true, Bool.not_eq_true', decide_eq_false_iff_not, reduceCtorEq, rows_length, pcs_length, er_ok, er_ok', ep_ok, ep_ok', dr_er, dp_ep, isRows_rows, isPcs_pcs, toRows_rows, toPcs_pcs, rows_take, rows_drop, pcs_take, pcs_drop, rows_append, pcs_append, ints_length, isInts_ints, toInts_ints, ei_i, ei_ok, mk_headD, ints_take, ints_drop, ints_append, ints_snoc, ints_snoc', List.take_length, Nat.zero_add, Nat.le_refl, er_a, er_b, er_k, er_n, er_s, er_v, ep_a, ep_b, ep_hk, ep_hn, ep_hs, ep_wk, ep_wn, ep_ws, show l.length < 4294967296 by omega, show m.length < 4294967296 by omega]
  by_cases hl : okP l = true
  · by_cases hm : okP m = true
    · simp only [hl, hm, Bool.true_eq_false, if_false]
      refine fd_post hct (by kernel_rfl) rfl (loops_post hct (b := b41_0) (ι := Nat × Nat × List Pst) (fun s => s41_0 nl tt (psts l) nl2 t2 (psts m) s.2.2.length s.1 s.2.1 (psts s.2.2)) (fun s => s.1 ≤ l.length ∧ s.2.1 ≤ m.length ∧ s.2.2.length = s.1 + s.2.1 ∧ resA s.2.2 (mergeP (l.length + m.length - (s.1 + s.2.1)) (l.drop s.1) (m.drop s.2.1)) = addP l m)
        (fun s => l.length + m.length - (s.1 + s.2.1)) _ ?_ (0, 0, []) ⟨Nat.zero_le _, Nat.zero_le _, rfl, by rw [addP_res hl hm]; simp⟩)
      rintro ⟨i, k, acc⟩ ⟨hi, hk, hlen, hr⟩
      dsimp only at hi hk hlen hr ⊢
      have ht : List.take acc.length (psts acc) = psts acc := by rw [← psts_length acc, List.take_length]
      have hbig : i + k ≤ l.length + m.length := by omega
      rw [t41_0]
      by_cases gi : i < l.length
      · by_cases gk : k < m.length
        · have c1 : ¬ ((k : Int) = (m.length : Int)) := by omega
          have c2 : ¬ ((i : Int) = (l.length : Int)) := by omega
          have c3 : acc.length + 1 < 4294967296 := by omega
          simp only [psts_length, eo_ok, eo_ok', isPsts_psts, toPsts_psts, psts_take, psts_drop, psts_append, psts_snoc, psts_snoc', eo_p, eo_c, eo_k, eo_len, toPsts_length, dO_eo, eo_mk, ld_br, ld_chk', ld_leaf, fd_br, fd_chk', fd_leaf, decide_true, decide_eq_true_eq, if_true, Int.toNat_natCast, Int.natCast_nonneg, Int.ofNat_lt, Int.ofNat_le, Bool.false_eq_true, if_false, bne_iff_ne, beq_iff_eq, ne_eq, not_true_eq_false, not_false_eq_true, Bool.not_eq_true', decide_eq_false_iff_not, reduceCtorEq, rows_length, pcs_length, er_ok, er_ok', ep_ok, ep_ok', dr_er, dp_ep, isRows_rows, isPcs_pcs, toRows_rows, toPcs_pcs, rows_take, rows_drop, pcs_take, pcs_drop, rows_append, pcs_append, ints_length, isInts_ints, toInts_ints, ei_i, ei_ok, mk_headD, ints_take, ints_drop, ints_append, ints_snoc, ints_snoc', List.take_length, Nat.zero_add, Nat.le_refl, er_a, er_b, er_k, er_n, er_s, er_v, ep_a, ep_b, ep_hk, ep_hn, ep_hs, ep_wk, ep_wn, ep_ws, gi, gk, c1, c2, c3, psts_getD gi, psts_getD gk, pst_eta, ht, wrap_succ (show i < 9223372036854775807 by omega), wrap_succ (show k < 9223372036854775807 by omega)]
          rw [merge_step gi gk] at hr
          by_cases g1 : lessP l[i] m[k] = true
          · rw [if_pos g1] at hr
            exact .inl ⟨(i + 1, k, acc ++ [l[i]]), ⟨by dsimp only; omega, hk, by simp; omega, hr⟩, by dsimp only; omega, by simp [g1]⟩
          · rw [if_neg g1] at hr
            by_cases g2 : lessP m[k] l[i] = true
            · rw [if_pos g2] at hr
              exact .inl ⟨(i, k + 1, acc ++ [m[k]]), ⟨hi, by dsimp only; omega, by simp; omega, hr⟩, by dsimp only; omega, by simp [g1, g2]⟩
            · rw [if_neg g2] at hr
              exact .inr ⟨x41_0x0 (psts acc), by simp, by rw [k41_0x0, fd_leaf, ← hr]; rfl, by simp [g1, g2]⟩
        · have c1 : (k : Int) = (m.length : Int) := by omega
          have c3 : acc.length + 1 < 4294967296 := by omega
          simp only [psts_length, eo_ok, eo_ok', isPsts_psts, toPsts_psts, psts_take, psts_drop, psts_append, psts_snoc, psts_snoc', eo_p, eo_c, eo_k, eo_len, toPsts_length, dO_eo, eo_mk, ld_br, ld_chk', ld_leaf, fd_br, fd_chk', fd_leaf, decide_true, decide_eq_true_eq, if_true, Int.toNat_natCast, Int.natCast_nonneg, Int.ofNat_lt, Int.ofNat_le, Bool.false_eq_true, if_false, bne_iff_ne, beq_iff_eq, ne_eq, not_true_eq_false, not_false_eq_true, Bool.not_eq_true', decide_eq_false_iff_not, reduceCtorEq, rows_length, pcs_length, er_ok, er_ok', ep_ok, ep_ok', dr_er, dp_ep, isRows_rows, isPcs_pcs, toRows_rows, toPcs_pcs, rows_take, rows_drop, pcs_take, pcs_drop, rows_append, pcs_append, ints_length, isInts_ints, toInts_ints, ei_i, ei_ok, mk_headD, ints_take, ints_drop, ints_append, ints_snoc, ints_snoc', List.take_length, Nat.zero_add, Nat.le_refl, er_a, er_b, er_k, er_n, er_s, er_v, ep_a, ep_b, ep_hk, ep_hn, ep_hs, ep_wk, ep_wn, ep_ws, gi, c1, c3, psts_getD gi, ht, wrap_succ (show i < 9223372036854775807 by omega)]
          rcases merge_left (m := m) (k := k) gi (by omega) acc with h5 | h5
          · rw [h5] at hr
            exact .inl ⟨(i + 1, k, acc ++ [l[i]]), ⟨by dsimp only; omega, hk, by simp; omega, hr⟩, by dsimp only; omega, by simp [c1]⟩
          · omega
      · obtain rfl : i = l.length := by omega
        by_cases gk : k < m.length
        · have c3 : acc.length + 1 < 4294967296 := by omega
          simp only [psts_length, eo_ok, eo_ok', isPsts_psts, toPsts_psts, psts_take, psts_drop, psts_append, psts_snoc, psts_snoc', eo_p, eo_c, eo_k, eo_len, toPsts_length, dO_eo, eo_mk, ld_br, ld_chk', ld_leaf, fd_br, fd_chk', fd_leaf, decide_true, decide_eq_true_eq, if_true, Int.toNat_natCast, Int.natCast_nonneg, Int.ofNat_lt, Int.ofNat_le, Bool.false_eq_true, if_false, bne_iff_ne, beq_iff_eq, ne_eq, not_true_eq_false, not_false_eq_true, Bool.not_eq_true', decide_eq_false_iff_not, reduceCtorEq, rows_length, pcs_length, er_ok, er_ok', ep_ok, ep_ok', dr_er, dp_ep, isRows_rows, isPcs_pcs, toRows_rows, toPcs_pcs, rows_take, rows_drop, pcs_take, pcs_drop, rows_append, pcs_append, ints_length, isInts_ints, toInts_ints, ei_i, ei_ok, mk_headD, ints_take, ints_drop, ints_append, ints_snoc, ints_snoc', List.take_length, Nat.zero_add, Nat.le_refl, er_a, er_b, er_k, er_n, er_s, er_v, ep_a, ep_b, ep_hk, ep_hn, ep_hs, ep_wk, ep_wn, ep_ws, gk, c3, Nat.lt_irrefl, psts_getD gk, ht, wrap_succ (show k < 9223372036854775807 by omega)]
          rw [merge_right gk] at hr
          exact .inl ⟨(l.length, k + 1, acc ++ [m[k]]), ⟨hi, by dsimp only; omega, by simp; omega, hr⟩, by dsimp only; omega, by simp; omega⟩
        · obtain rfl : k = m.length := by omega
          refine .inr ⟨x41_0x1 nl tt (psts l) nl2 t2 (psts m) acc.length l.length m.length (psts acc), by simp, ?_, by simp only [psts_length, eo_ok, eo_ok', isPsts_psts, toPsts_psts, psts_take, psts_drop, psts_append, psts_snoc, psts_snoc', eo_p, eo_c, eo_k, eo_len, toPsts_length, dO_eo, eo_mk, ld_br, ld_chk', ld_leaf, fd_br, fd_chk', fd_leaf, decide_true, decide_eq_true_eq, if_true, Int.toNat_natCast, Int.natCast_nonneg, Int.ofNat_lt, Int.ofNat_le, Bool.false_eq_true, if_false, bne_iff_ne, beq_iff_eq, ne_eq, not_true_eq_false, not_false_eq_true, Bool.not_eq_true', decide_eq_false_iff_not, reduceCtorEq, rows_length, pcs_length, er_ok, er_ok', ep_ok, ep_ok', dr_er, dp_ep, isRows_rows, isPcs_pcs, toRows_rows, toPcs_pcs, rows_take, rows_drop, pcs_take, pcs_drop, rows_append, pcs_append, ints_length, isInts_ints, toInts_ints, ei_i, ei_ok, mk_headD, ints_take, ints_drop, ints_append, ints_snoc, ints_snoc', List.take_length, Nat.zero_add, Nat.le_refl, er_a, er_b, er_k, er_n, er_s, er_v, ep_a, ep_b, ep_hk, ep_hn, ep_hs, ep_wk, ep_wn, ep_ws, Nat.lt_irrefl]⟩
          rw [k41_0x1, fd_leaf, ← hr, Nat.sub_self, List.drop_length, List.drop_length, ht]
          simp [resA, mergeP]
    · rw [addP_bad (fun hh => hm hh.2)]
      rw [Bool.not_eq_true] at hm
      simp only [hl, hm, Bool.true_eq_false, if_false, if_true]; rfl
  · rw [addP_bad (fun hh => hl hh.1)]
    rw [Bool.not_eq_true] at hl
    simp only [hl, if_true]; rfl
end Go.Proofs.YtbilmkcdhodenaaDoor

end
