/-
  Chapter 31 (search), trees, written by a program: the laws.
-/
import Derived.Test.YtbilmkcdhodenaaDoorXT3
import Derived.Test.YtbilmkcdhodenaaDoorXF14
import Derived.Test.YtbilmkcdhodenaaDoorXM0
set_option linter.all false
set_option linter.unusedSimpArgs false
set_option linter.unusedVariables false
section
namespace Go.Proofs.YtbilmkcdhodenaaDoor
open Go Go.Ev
set_option pp.deepTerms true
set_option pp.maxSteps 1000000
set_option pp.funBinderTypes true
set_option pp.coercions.types true
noncomputable abbrev p3 : Par := par E sh (ctOf [(14, s14), (15, s15), (16, s16)]) 3 2 0
theorem t3 (nl : Option Bool) (tt : Bool) (xs : List (List C)) (n : Int) : p3.ft ([V.c (C.sl 4 nl tt xs), V.i n]) ([]) = (Tr.br (decide (300 < (↑xs.length : Int))) (Tr.leaf (R.out [V.c (C.bool true)] [])) (Tr.chk (isRns xs) (Tr.chk (decide (xs.length < 4294967296)) (Tr.chk (isRns xs) (Tr.chk (decide (xs.length < 4294967296)) (Tr.br (halvesP (toRns xs) n == halvesR (toRns xs) n) (Tr.leaf (R.out [V.c (C.bool true)] [])) (Tr.br (decide (halvesP (toRns xs) n < 0)) (Tr.br (decide (halvesR (toRns xs) n < 0)) (Tr.leaf (R.out [V.c (C.bool true)] [])) (Tr.leaf (R.out [V.c (C.bool false)] []))) (Tr.leaf (R.out [V.c (C.bool false)] []))))))))) := by kernel_rfl
noncomputable abbrev p4 : Par := par E sh (ctOf [(14, s14), (17, s17), (18, s18), (19, s19), (20, s20), (21, s21), (22, s22), (23, s23), (24, s24), (25, Gr.s25), (26, s26), (27, s27)]) 4 5 0
theorem t4 (nl : Option Bool) (tt : Bool) (xs : List (List C)) (kn : Option Bool) (kt : Bool) (ys : List (List C)) (n : Int) (q : List UInt8) (t : Int) (k : Int) (m : Int) (s : List UInt8) : p4.ft ([V.agg [V.c (C.sl 2 nl tt xs), V.c (C.sl 3 kn kt ys)], V.i n, V.c (C.str q), V.i t, V.agg [V.i k, V.i m, V.c (C.str s)]]) ([]) = (Tr.chk (Gr.isRepo xs) (Tr.chk (isL ys) (Tr.chk (lensL (decL ys)) (Tr.br (!smallW (Gr.toRepo xs) (decL ys)) (Tr.leaf (R.out [V.c (C.bool true)] [])) (Tr.br (decide (100 < (↑q.length : Int))) (Tr.leaf (R.out [V.c (C.bool true)] [])) (Tr.br (decide (100 < (↑s.length : Int))) (Tr.leaf (R.out [V.c (C.bool true)] [])) (Tr.chk (Gr.isRepo xs) (Tr.chk (Gr.smallB (Gr.toRepo xs)) (Tr.chk (isL ys) (Tr.chk (decide (ys.length < 4294967296)) (Tr.chk (Gr.isRepo xs) (Tr.chk (Gr.smallB (Gr.toRepo xs)) (Tr.chk (isL ys) (Tr.chk (decide (ys.length < 4294967296)) (Tr.chk (fewE (decL ys)) (Tr.br ((valueP (backP (Gr.toRepo xs) (decL ys) n q t)).k == (valueR (Gr.toRepo xs) (decL ys) n q t).k && ((valueP (backP (Gr.toRepo xs) (decL ys) n q t)).n == (valueR (Gr.toRepo xs) (decL ys) n q t).n && ((valueP (backP (Gr.toRepo xs) (decL ys) n q t)).s == (valueR (Gr.toRepo xs) (decL ys) n q t).s && true))) (Tr.br (((valueP (backP (Gr.toRepo xs) (decL ys) n q t)).k != 0) == ((valueR (Gr.toRepo xs) (decL ys) n q t).k != 0)) (Tr.chk (Gr.isRepo xs) (Tr.chk (Gr.smallB (Gr.toRepo xs)) (Tr.chk (isL ys) (Tr.chk (decide (ys.length < 4294967296)) (Tr.chk (Gr.isRepo xs) (Tr.chk (Gr.smallB (Gr.toRepo xs)) (Tr.chk (isL ys) (Tr.chk (decide (ys.length < 4294967296)) (Tr.chk (fewE (decL ys)) (Tr.chk (isRns (rns (runsP (backP (Gr.toRepo xs) (decL ys) n q t)))) (Tr.chk (isRns (rns (runsR (Gr.toRepo xs) (decL ys) n q t))) (Tr.chk (decide ((rns (runsP (backP (Gr.toRepo xs) (decL ys) n q t))).length < 4294967296)) (Tr.br (decide (toRns (rns (runsP (backP (Gr.toRepo xs) (decL ys) n q t))) = toRns (rns (runsR (Gr.toRepo xs) (decL ys) n q t)))) (Tr.chk (Gr.isRepo xs) (Tr.chk (Gr.smallB (Gr.toRepo xs)) (Tr.chk (isL ys) (Tr.chk (decide (ys.length < 4294967296)) (Tr.chk (Gr.isRepo xs) (Tr.chk (Gr.smallB (Gr.toRepo xs)) (Tr.chk (isL ys) (Tr.chk (decide (ys.length < 4294967296)) (Tr.chk (fewE (decL ys)) (Tr.br (firstRn (runsP (backP (Gr.toRepo xs) (decL ys) n q t)) == firstR2 (Gr.toRepo xs) (decL ys) n q t) (Tr.chk (Gr.isRepo xs) (Tr.chk (Gr.smallB (Gr.toRepo xs)) (Tr.chk (isL ys) (Tr.chk (decide (ys.length < 4294967296)) (Tr.chk (Gr.isRepo xs) (Tr.chk (Gr.smallB (Gr.toRepo xs)) (Tr.chk (isL ys) (Tr.chk (decide (ys.length < 4294967296)) (Tr.chk (fewE (decL ys)) (Tr.chk (isInts (ints (everP (backP (Gr.toRepo xs) (decL ys) n q t) { k := k, n := m, s := s }))) (Tr.chk (isInts (ints (everR (Gr.toRepo xs) (decL ys) n q t { k := k, n := m, s := s }))) (Tr.chk (decide ((ints (everP (backP (Gr.toRepo xs) (decL ys) n q t) { k := k, n := m, s := s })).length ≤ 4294967296)) (Tr.br (toInts (ints (everP (backP (Gr.toRepo xs) (decL ys) n q t) { k := k, n := m, s := s })) == toInts (ints (everR (Gr.toRepo xs) (decL ys) n q t { k := k, n := m, s := s }))) (Tr.leaf (R.out [V.c (C.bool true)] [])) (Tr.leaf (R.out [V.c (C.bool false)] []))))))))))))))) (Tr.leaf (R.out [V.c (C.bool false)] [])))))))))))) (Tr.leaf (R.out [V.c (C.bool false)] []))))))))))))))) (Tr.leaf (R.out [V.c (C.bool false)] []))) (Tr.leaf (R.out [V.c (C.bool false)] [])))))))))))))))))) := by kernel_rfl
noncomputable abbrev p5 : Par := par E sh (ctOf [(14, s14), (15, s15), (17, s17), (18, s18), (21, s21), (23, s23), (28, Gr.s28)]) 5 4 0
abbrev s5_0 (nl : Option Bool) (tt : Bool) (xs : List (List C)) (kn : Option Bool) (kt : Bool) (ys : List (List C)) (n : Int) (q : List UInt8) (t : Int) (nl9 : Option Bool) (t9 : Bool) (xs9 : List (List C)) (nl10 : Option Bool) (t10 : Bool) (xs10 : List (List C)) (i11 : Int) : Fr × Hp := ([(1, V.c (C.int IntKind.i64 n)), (2, V.c (C.str q)), (3, V.c (C.int IntKind.i64 t)), (4, V.ptr 0 0 0 0), (9, V.c (C.sl 4 nl9 t9 xs9)), (10, V.c (C.sl 1 nl10 t10 xs10)), (11, V.c (C.int IntKind.i64 i11))], [O.box [V.c (C.sl 2 nl tt xs), V.c (C.sl 3 kn kt ys)]])
noncomputable abbrev b5_0 : Code := loopAt (codeOf p5.E p5.g) 0
abbrev s5_0_0 (nl : Option Bool) (tt : Bool) (xs : List (List C)) (kn : Option Bool) (kt : Bool) (ys : List (List C)) (n : Int) (q : List UInt8) (t : Int) (nl9 : Option Bool) (t9 : Bool) (xs9 : List (List C)) (nl10 : Option Bool) (t10 : Bool) (xs10 : List (List C)) (i11 : Int) (i14 : Int) (i15 : Int) (ih1 : Int) (ih1_1 : Int) (sh1 : List UInt8) : Fr × Hp := ([(1, V.c (C.int IntKind.i64 n)), (2, V.c (C.str q)), (3, V.c (C.int IntKind.i64 t)), (4, V.ptr 0 0 0 0), (9, V.c (C.sl 4 nl9 t9 xs9)), (10, V.c (C.sl 1 nl10 t10 xs10)), (11, V.c (C.int IntKind.i64 i11)), (12, V.ptr 1 0 0 0), (14, V.c (C.int IntKind.i64 i14)), (15, V.c (C.int IntKind.i64 i15))], [O.box [V.c (C.sl 2 nl tt xs), V.c (C.sl 3 kn kt ys)], O.box [V.c (C.int IntKind.i64 ih1), V.c (C.int IntKind.i64 ih1_1), V.c (C.str sh1)]])
noncomputable abbrev b5_0_0 : Code := loopAt b5_0 0
abbrev x5_0_0x0 (nl : Option Bool) (tt : Bool) (xs : List (List C)) (kn : Option Bool) (kt : Bool) (ys : List (List C)) (n : Int) (q : List UInt8) (t : Int) (nl9 : Option Bool) (t9 : Bool) (xs9 : List (List C)) (nl10 : Option Bool) (t10 : Bool) (xs10 : List (List C)) (i11 : Int) (i14 : Int) (i15 : Int) (ih1 : Int) (ih1_1 : Int) (sh1 : List UInt8) : Ex × Fr × Hp := (Ex.exit 2, [(1, V.c (C.int IntKind.i64 n)), (2, V.c (C.str q)), (3, V.c (C.int IntKind.i64 t)), (4, V.ptr 0 0 0 0), (9, V.c (C.sl 4 nl9 t9 xs9)), (10, V.c (C.sl 1 nl10 t10 xs10)), (11, V.c (C.int IntKind.i64 i11)), (12, V.ptr 1 0 0 0), (14, V.c (C.int IntKind.i64 i14)), (15, V.c (C.int IntKind.i64 i15)), (58, V.c (C.bool false))], [O.box [V.c (C.sl 2 nl tt xs), V.c (C.sl 3 kn kt ys)], O.box [V.c (C.int IntKind.i64 ih1), V.c (C.int IntKind.i64 ih1_1), V.c (C.str sh1)]])
abbrev x5_0x0 (nl : Option Bool) (tt : Bool) (xs : List (List C)) (kn : Option Bool) (kt : Bool) (ys : List (List C)) (ih1 : Int) (ih1_1 : Int) (sh1 : List UInt8) (ih2 : Int) (ih2_1 : Int) (sh2 : List UInt8) : Ex × Fr × Hp := (Ex.ret, [(8, V.c (C.bool true))], [O.box [V.c (C.sl 2 nl tt xs), V.c (C.sl 3 kn kt ys)], O.box [V.c (C.int IntKind.i64 ih1), V.c (C.int IntKind.i64 ih1_1), V.c (C.str sh1)], O.box [V.c (C.int IntKind.i64 ih2), V.c (C.int IntKind.i64 ih2_1), V.c (C.str sh2)]])
abbrev x5_0x1 (nl : Option Bool) (tt : Bool) (xs : List (List C)) (kn : Option Bool) (kt : Bool) (ys : List (List C)) (ih1 : Int) (ih1_1 : Int) (sh1 : List UInt8) (ih2 : Int) (ih2_1 : Int) (sh2 : List UInt8) : Ex × Fr × Hp := (Ex.ret, [(8, V.c (C.bool false))], [O.box [V.c (C.sl 2 nl tt xs), V.c (C.sl 3 kn kt ys)], O.box [V.c (C.int IntKind.i64 ih1), V.c (C.int IntKind.i64 ih1_1), V.c (C.str sh1)], O.box [V.c (C.int IntKind.i64 ih2), V.c (C.int IntKind.i64 ih2_1), V.c (C.str sh2)]])
abbrev x5_0x2 (nl : Option Bool) (tt : Bool) (xs : List (List C)) (kn : Option Bool) (kt : Bool) (ys : List (List C)) (n : Int) (q : List UInt8) (t : Int) (nl9 : Option Bool) (t9 : Bool) (xs9 : List (List C)) (nl10 : Option Bool) (t10 : Bool) (xs10 : List (List C)) (i11 : Int) : Ex × Fr × Hp := (Ex.exit 0, [(1, V.c (C.int IntKind.i64 n)), (2, V.c (C.str q)), (3, V.c (C.int IntKind.i64 t)), (4, V.ptr 0 0 0 0), (9, V.c (C.sl 4 nl9 t9 xs9)), (10, V.c (C.sl 1 nl10 t10 xs10)), (11, V.c (C.int IntKind.i64 i11)), (41, V.c (C.bool false))], [O.box [V.c (C.sl 2 nl tt xs), V.c (C.sl 3 kn kt ys)]])
theorem t5_0_0 (nl : Option Bool) (tt : Bool) (xs : List (List C)) (kn : Option Bool) (kt : Bool) (ys : List (List C)) (n : Int) (q : List UInt8) (t : Int) (nl9 : Option Bool) (t9 : Bool) (xs9 : List (List C)) (nl10 : Option Bool) (t10 : Bool) (xs10 : List (List C)) (i11 : Int) (i14 : Int) (i15 : Int) (ih1 : Int) (ih1_1 : Int) (sh1 : List UInt8) : p5.lts b5_0_0 (s5_0_0 nl tt xs kn kt ys n q t nl9 t9 xs9 nl10 t10 xs10 i11 i14 i15 ih1 ih1_1 sh1) = (Tr.br (decide (i15 < (↑xs9.length : Int))) (Tr.chk (decide (0 ≤ i15)) (Tr.chk true (Tr.chk (decide (i15.toNat < xs9.length)) (Tr.chk (shOk [Sk.int IntKind.i64, Sk.int IntKind.i64, Sk.int IntKind.i64, Sk.str] (xs9.getD i15.toNat [])) (Tr.chk (decide (0 ≤ i11)) (Tr.chk true (Tr.chk (decide (i11.toNat < xs10.length)) (Tr.chk (shOk [Sk.int IntKind.i64] (xs10.getD i11.toNat [])) (Tr.br (decide (((xs9.getD i15.toNat []).headD C.pnil).i ≤ ((xs10.getD i11.toNat []).headD C.pnil).i)) (Tr.leaf (R.s (s5_0_0 nl tt xs kn kt ys n q t nl9 t9 xs9 nl10 t10 xs10 i11 i15 (IntKind.i64.wrap (i15 + 1)) ih1 ih1_1 sh1))) (Tr.leaf (R.s (s5_0_0 nl tt xs kn kt ys n q t nl9 t9 xs9 nl10 t10 xs10 i11 i14 (IntKind.i64.wrap (i15 + 1)) ih1 ih1_1 sh1)))))))))))) (Tr.leaf (R.x (x5_0_0x0 nl tt xs kn kt ys n q t nl9 t9 xs9 nl10 t10 xs10 i11 i14 i15 ih1 ih1_1 sh1)))) := by kernel_rfl
theorem k5_0_0x0 (nl : Option Bool) (tt : Bool) (xs : List (List C)) (kn : Option Bool) (kt : Bool) (ys : List (List C)) (n : Int) (q : List UInt8) (t : Int) (nl9 : Option Bool) (t9 : Bool) (xs9 : List (List C)) (nl10 : Option Bool) (t10 : Bool) (xs10 : List (List C)) (i11 : Int) (i14 : Int) (i15 : Int) (ih1 : Int) (ih1_1 : Int) (sh1 : List UInt8) : p5.lkx b5_0 0 (x5_0_0x0 nl tt xs kn kt ys n q t nl9 t9 xs9 nl10 t10 xs10 i11 i14 i15 ih1 ih1_1 sh1) = (Tr.br (decide (i14 < 0)) (Tr.br (ih1 != 0) (Tr.chk (Gr.isRepo xs) (Tr.chk (Gr.smallB (Gr.toRepo xs)) (Tr.chk (isL ys) (Tr.chk (decide (ys.length < 4294967296)) (Tr.br ((↑xs9.length : Int) == 0) (Tr.br (!(valueP (backP (Gr.toRepo xs) (decL ys) n q t)).k != 0) (Tr.br (ih1 == 0) (Tr.leaf (R.x (x5_0x0 nl tt xs kn kt ys ih1 ih1_1 sh1 ((valueP (backP (Gr.toRepo xs) (decL ys) n q t)).k) ((valueP (backP (Gr.toRepo xs) (decL ys) n q t)).n) ((valueP (backP (Gr.toRepo xs) (decL ys) n q t)).s)))) (Tr.leaf (R.x (x5_0x1 nl tt xs kn kt ys ih1 ih1_1 sh1 ((valueP (backP (Gr.toRepo xs) (decL ys) n q t)).k) ((valueP (backP (Gr.toRepo xs) (decL ys) n q t)).n) ((valueP (backP (Gr.toRepo xs) (decL ys) n q t)).s))))) (Tr.leaf (R.x (x5_0x1 nl tt xs kn kt ys ih1 ih1_1 sh1 ((valueP (backP (Gr.toRepo xs) (decL ys) n q t)).k) ((valueP (backP (Gr.toRepo xs) (decL ys) n q t)).n) ((valueP (backP (Gr.toRepo xs) (decL ys) n q t)).s))))) (Tr.leaf (R.x (x5_0x1 nl tt xs kn kt ys ih1 ih1_1 sh1 ((valueP (backP (Gr.toRepo xs) (decL ys) n q t)).k) ((valueP (backP (Gr.toRepo xs) (decL ys) n q t)).n) ((valueP (backP (Gr.toRepo xs) (decL ys) n q t)).s))))))))) (Tr.br (decide (0 ≤ i14)) (Tr.chk (decide (0 ≤ i14)) (Tr.chk true (Tr.chk (decide (i14.toNat < xs9.length)) (Tr.chk (shOk [Sk.int IntKind.i64, Sk.int IntKind.i64, Sk.int IntKind.i64, Sk.str] (xs9.getD i14.toNat [])) (Tr.br (!(((xs9.getD i14.toNat []).tail.headD C.pnil).i == ih1 && (((xs9.getD i14.toNat []).tail.tail.headD C.pnil).i == ih1_1 && (((xs9.getD i14.toNat []).tail.tail.tail.headD C.pnil).st == sh1 && true)))) (Tr.chk (Gr.isRepo xs) (Tr.chk (Gr.smallB (Gr.toRepo xs)) (Tr.chk (isL ys) (Tr.chk (decide (ys.length < 4294967296)) (Tr.br ((↑xs9.length : Int) == 0) (Tr.br (!(valueP (backP (Gr.toRepo xs) (decL ys) n q t)).k != 0) (Tr.br (ih1 == 0) (Tr.leaf (R.x (x5_0x0 nl tt xs kn kt ys ih1 ih1_1 sh1 ((valueP (backP (Gr.toRepo xs) (decL ys) n q t)).k) ((valueP (backP (Gr.toRepo xs) (decL ys) n q t)).n) ((valueP (backP (Gr.toRepo xs) (decL ys) n q t)).s)))) (Tr.leaf (R.x (x5_0x1 nl tt xs kn kt ys ih1 ih1_1 sh1 ((valueP (backP (Gr.toRepo xs) (decL ys) n q t)).k) ((valueP (backP (Gr.toRepo xs) (decL ys) n q t)).n) ((valueP (backP (Gr.toRepo xs) (decL ys) n q t)).s))))) (Tr.leaf (R.x (x5_0x1 nl tt xs kn kt ys ih1 ih1_1 sh1 ((valueP (backP (Gr.toRepo xs) (decL ys) n q t)).k) ((valueP (backP (Gr.toRepo xs) (decL ys) n q t)).n) ((valueP (backP (Gr.toRepo xs) (decL ys) n q t)).s))))) (Tr.leaf (R.x (x5_0x1 nl tt xs kn kt ys ih1 ih1_1 sh1 ((valueP (backP (Gr.toRepo xs) (decL ys) n q t)).k) ((valueP (backP (Gr.toRepo xs) (decL ys) n q t)).n) ((valueP (backP (Gr.toRepo xs) (decL ys) n q t)).s))))))))) (Tr.chk (decide (0 ≤ i11)) (Tr.chk true (Tr.chk (decide (i11.toNat < xs10.length)) (Tr.chk (shOk [Sk.int IntKind.i64] (xs10.getD i11.toNat [])) (Tr.chk (isRns xs9) (Tr.chk (decide (xs9.length < 4294967296)) (Tr.br (halvesP (toRns xs9) ((xs10.getD i11.toNat []).headD C.pnil).i != i14) (Tr.chk (Gr.isRepo xs) (Tr.chk (Gr.smallB (Gr.toRepo xs)) (Tr.chk (isL ys) (Tr.chk (decide (ys.length < 4294967296)) (Tr.br ((↑xs9.length : Int) == 0) (Tr.br (!(valueP (backP (Gr.toRepo xs) (decL ys) n q t)).k != 0) (Tr.br (ih1 == 0) (Tr.leaf (R.x (x5_0x0 nl tt xs kn kt ys ih1 ih1_1 sh1 ((valueP (backP (Gr.toRepo xs) (decL ys) n q t)).k) ((valueP (backP (Gr.toRepo xs) (decL ys) n q t)).n) ((valueP (backP (Gr.toRepo xs) (decL ys) n q t)).s)))) (Tr.leaf (R.x (x5_0x1 nl tt xs kn kt ys ih1 ih1_1 sh1 ((valueP (backP (Gr.toRepo xs) (decL ys) n q t)).k) ((valueP (backP (Gr.toRepo xs) (decL ys) n q t)).n) ((valueP (backP (Gr.toRepo xs) (decL ys) n q t)).s))))) (Tr.leaf (R.x (x5_0x1 nl tt xs kn kt ys ih1 ih1_1 sh1 ((valueP (backP (Gr.toRepo xs) (decL ys) n q t)).k) ((valueP (backP (Gr.toRepo xs) (decL ys) n q t)).n) ((valueP (backP (Gr.toRepo xs) (decL ys) n q t)).s))))) (Tr.leaf (R.x (x5_0x1 nl tt xs kn kt ys ih1 ih1_1 sh1 ((valueP (backP (Gr.toRepo xs) (decL ys) n q t)).k) ((valueP (backP (Gr.toRepo xs) (decL ys) n q t)).n) ((valueP (backP (Gr.toRepo xs) (decL ys) n q t)).s))))))))) (Tr.leaf (R.s (s5_0 nl tt xs kn kt ys n q t nl9 t9 xs9 nl10 t10 xs10 (IntKind.i64.wrap (i11 + 1))))))))))))))))) (Tr.leaf (R.s (s5_0 nl tt xs kn kt ys n q t nl9 t9 xs9 nl10 t10 xs10 (IntKind.i64.wrap (i11 + 1))))))) (Tr.br (decide (0 ≤ i14)) (Tr.chk (decide (0 ≤ i14)) (Tr.chk true (Tr.chk (decide (i14.toNat < xs9.length)) (Tr.chk (shOk [Sk.int IntKind.i64, Sk.int IntKind.i64, Sk.int IntKind.i64, Sk.str] (xs9.getD i14.toNat [])) (Tr.br (!(((xs9.getD i14.toNat []).tail.headD C.pnil).i == ih1 && (((xs9.getD i14.toNat []).tail.tail.headD C.pnil).i == ih1_1 && (((xs9.getD i14.toNat []).tail.tail.tail.headD C.pnil).st == sh1 && true)))) (Tr.chk (Gr.isRepo xs) (Tr.chk (Gr.smallB (Gr.toRepo xs)) (Tr.chk (isL ys) (Tr.chk (decide (ys.length < 4294967296)) (Tr.br ((↑xs9.length : Int) == 0) (Tr.br (!(valueP (backP (Gr.toRepo xs) (decL ys) n q t)).k != 0) (Tr.br (ih1 == 0) (Tr.leaf (R.x (x5_0x0 nl tt xs kn kt ys ih1 ih1_1 sh1 ((valueP (backP (Gr.toRepo xs) (decL ys) n q t)).k) ((valueP (backP (Gr.toRepo xs) (decL ys) n q t)).n) ((valueP (backP (Gr.toRepo xs) (decL ys) n q t)).s)))) (Tr.leaf (R.x (x5_0x1 nl tt xs kn kt ys ih1 ih1_1 sh1 ((valueP (backP (Gr.toRepo xs) (decL ys) n q t)).k) ((valueP (backP (Gr.toRepo xs) (decL ys) n q t)).n) ((valueP (backP (Gr.toRepo xs) (decL ys) n q t)).s))))) (Tr.leaf (R.x (x5_0x1 nl tt xs kn kt ys ih1 ih1_1 sh1 ((valueP (backP (Gr.toRepo xs) (decL ys) n q t)).k) ((valueP (backP (Gr.toRepo xs) (decL ys) n q t)).n) ((valueP (backP (Gr.toRepo xs) (decL ys) n q t)).s))))) (Tr.leaf (R.x (x5_0x1 nl tt xs kn kt ys ih1 ih1_1 sh1 ((valueP (backP (Gr.toRepo xs) (decL ys) n q t)).k) ((valueP (backP (Gr.toRepo xs) (decL ys) n q t)).n) ((valueP (backP (Gr.toRepo xs) (decL ys) n q t)).s))))))))) (Tr.chk (decide (0 ≤ i11)) (Tr.chk true (Tr.chk (decide (i11.toNat < xs10.length)) (Tr.chk (shOk [Sk.int IntKind.i64] (xs10.getD i11.toNat [])) (Tr.chk (isRns xs9) (Tr.chk (decide (xs9.length < 4294967296)) (Tr.br (halvesP (toRns xs9) ((xs10.getD i11.toNat []).headD C.pnil).i != i14) (Tr.chk (Gr.isRepo xs) (Tr.chk (Gr.smallB (Gr.toRepo xs)) (Tr.chk (isL ys) (Tr.chk (decide (ys.length < 4294967296)) (Tr.br ((↑xs9.length : Int) == 0) (Tr.br (!(valueP (backP (Gr.toRepo xs) (decL ys) n q t)).k != 0) (Tr.br (ih1 == 0) (Tr.leaf (R.x (x5_0x0 nl tt xs kn kt ys ih1 ih1_1 sh1 ((valueP (backP (Gr.toRepo xs) (decL ys) n q t)).k) ((valueP (backP (Gr.toRepo xs) (decL ys) n q t)).n) ((valueP (backP (Gr.toRepo xs) (decL ys) n q t)).s)))) (Tr.leaf (R.x (x5_0x1 nl tt xs kn kt ys ih1 ih1_1 sh1 ((valueP (backP (Gr.toRepo xs) (decL ys) n q t)).k) ((valueP (backP (Gr.toRepo xs) (decL ys) n q t)).n) ((valueP (backP (Gr.toRepo xs) (decL ys) n q t)).s))))) (Tr.leaf (R.x (x5_0x1 nl tt xs kn kt ys ih1 ih1_1 sh1 ((valueP (backP (Gr.toRepo xs) (decL ys) n q t)).k) ((valueP (backP (Gr.toRepo xs) (decL ys) n q t)).n) ((valueP (backP (Gr.toRepo xs) (decL ys) n q t)).s))))) (Tr.leaf (R.x (x5_0x1 nl tt xs kn kt ys ih1 ih1_1 sh1 ((valueP (backP (Gr.toRepo xs) (decL ys) n q t)).k) ((valueP (backP (Gr.toRepo xs) (decL ys) n q t)).n) ((valueP (backP (Gr.toRepo xs) (decL ys) n q t)).s))))))))) (Tr.leaf (R.s (s5_0 nl tt xs kn kt ys n q t nl9 t9 xs9 nl10 t10 xs10 (IntKind.i64.wrap (i11 + 1))))))))))))))))) (Tr.leaf (R.s (s5_0 nl tt xs kn kt ys n q t nl9 t9 xs9 nl10 t10 xs10 (IntKind.i64.wrap (i11 + 1))))))) := by kernel_rfl
theorem t5_0 (nl : Option Bool) (tt : Bool) (xs : List (List C)) (kn : Option Bool) (kt : Bool) (ys : List (List C)) (n : Int) (q : List UInt8) (t : Int) (nl9 : Option Bool) (t9 : Bool) (xs9 : List (List C)) (nl10 : Option Bool) (t10 : Bool) (xs10 : List (List C)) (i11 : Int) : p5.lts b5_0 (s5_0 nl tt xs kn kt ys n q t nl9 t9 xs9 nl10 t10 xs10 i11) = (Tr.br (decide (i11 < (↑xs10.length : Int))) (Tr.chk (decide (0 ≤ i11)) (Tr.chk true (Tr.chk (decide (i11.toNat < xs10.length)) (Tr.chk (shOk [Sk.int IntKind.i64] (xs10.getD i11.toNat [])) (Tr.chk (Gr.isRepo xs) (Tr.chk (Gr.smallB (Gr.toRepo xs)) (Tr.chk (isL ys) (Tr.chk (decide (ys.length < 4294967296)) (Tr.ls 0 (s5_0_0 nl tt xs kn kt ys n q t nl9 t9 xs9 nl10 t10 xs10 i11 (-1) (0) ((valueP (backP (Gr.toRepo xs) (decL ys) ((xs10.getD i11.toNat []).headD C.pnil).i q t)).k) ((valueP (backP (Gr.toRepo xs) (decL ys) ((xs10.getD i11.toNat []).headD C.pnil).i q t)).n) ((valueP (backP (Gr.toRepo xs) (decL ys) ((xs10.getD i11.toNat []).headD C.pnil).i q t)).s))))))))))) (Tr.leaf (R.x (x5_0x2 nl tt xs kn kt ys n q t nl9 t9 xs9 nl10 t10 xs10 i11)))) := by kernel_rfl
theorem k5_0x0 (nl : Option Bool) (tt : Bool) (xs : List (List C)) (kn : Option Bool) (kt : Bool) (ys : List (List C)) (ih1 : Int) (ih1_1 : Int) (sh1 : List UInt8) (ih2 : Int) (ih2_1 : Int) (sh2 : List UInt8) : p5.fkx 0 (x5_0x0 nl tt xs kn kt ys ih1 ih1_1 sh1 ih2 ih2_1 sh2) = (Tr.leaf (R.out [V.c (C.bool true)] [])) := by kernel_rfl
theorem k5_0x1 (nl : Option Bool) (tt : Bool) (xs : List (List C)) (kn : Option Bool) (kt : Bool) (ys : List (List C)) (ih1 : Int) (ih1_1 : Int) (sh1 : List UInt8) (ih2 : Int) (ih2_1 : Int) (sh2 : List UInt8) : p5.fkx 0 (x5_0x1 nl tt xs kn kt ys ih1 ih1_1 sh1 ih2 ih2_1 sh2) = (Tr.leaf (R.out [V.c (C.bool false)] [])) := by kernel_rfl
theorem k5_0x2 (nl : Option Bool) (tt : Bool) (xs : List (List C)) (kn : Option Bool) (kt : Bool) (ys : List (List C)) (n : Int) (q : List UInt8) (t : Int) (nl9 : Option Bool) (t9 : Bool) (xs9 : List (List C)) (nl10 : Option Bool) (t10 : Bool) (xs10 : List (List C)) (i11 : Int) : p5.fkx 0 (x5_0x2 nl tt xs kn kt ys n q t nl9 t9 xs9 nl10 t10 xs10 i11) = (Tr.br (decide (0 ≤ IntKind.i64.wrap ((↑xs9.length : Int) - 1))) (Tr.chk (decide (0 ≤ IntKind.i64.wrap ((↑xs9.length : Int) - 1))) (Tr.chk true (Tr.chk (decide ((IntKind.i64.wrap ((↑xs9.length : Int) - 1)).toNat < xs9.length)) (Tr.chk (shOk [Sk.int IntKind.i64, Sk.int IntKind.i64, Sk.int IntKind.i64, Sk.str] (xs9.getD (IntKind.i64.wrap ((↑xs9.length : Int) - 1)).toNat [])) (Tr.br (((xs9.getD (IntKind.i64.wrap ((↑xs9.length : Int) - 1)).toNat []).tail.headD C.pnil).i != 0) (Tr.chk (decide (0 ≤ IntKind.i64.wrap ((↑xs9.length : Int) - 1))) (Tr.chk true (Tr.chk (decide ((IntKind.i64.wrap ((↑xs9.length : Int) - 1)).toNat < xs9.length)) (Tr.chk (shOk [Sk.int IntKind.i64, Sk.int IntKind.i64, Sk.int IntKind.i64, Sk.str] (xs9.getD (IntKind.i64.wrap ((↑xs9.length : Int) - 1)).toNat [])) (Tr.chk (Gr.isRepo xs) (Tr.chk (Gr.smallB (Gr.toRepo xs)) (Tr.chk (isL ys) (Tr.chk (decide (ys.length < 4294967296)) (Tr.br (firstRn (runsP (backP (Gr.toRepo xs) (decL ys) n q t)) == ((xs9.getD (IntKind.i64.wrap ((↑xs9.length : Int) - 1)).toNat []).headD C.pnil).i) (Tr.leaf (R.out [V.c (C.bool true)] [])) (Tr.leaf (R.out [V.c (C.bool false)] []))))))))))) (Tr.chk (Gr.isRepo xs) (Tr.chk (Gr.smallB (Gr.toRepo xs)) (Tr.chk (isL ys) (Tr.chk (decide (ys.length < 4294967296)) (Tr.br (firstRn (runsP (backP (Gr.toRepo xs) (decL ys) n q t)) == 0) (Tr.leaf (R.out [V.c (C.bool true)] [])) (Tr.leaf (R.out [V.c (C.bool false)] [])))))))))))) (Tr.chk (Gr.isRepo xs) (Tr.chk (Gr.smallB (Gr.toRepo xs)) (Tr.chk (isL ys) (Tr.chk (decide (ys.length < 4294967296)) (Tr.br (firstRn (runsP (backP (Gr.toRepo xs) (decL ys) n q t)) == 0) (Tr.leaf (R.out [V.c (C.bool true)] [])) (Tr.leaf (R.out [V.c (C.bool false)] [])))))))) := by kernel_rfl
theorem t5 (nl : Option Bool) (tt : Bool) (xs : List (List C)) (kn : Option Bool) (kt : Bool) (ys : List (List C)) (n : Int) (q : List UInt8) (t : Int) : p5.ft ([V.agg [V.c (C.sl 2 nl tt xs), V.c (C.sl 3 kn kt ys)], V.i n, V.c (C.str q), V.i t]) ([]) = (Tr.chk (Gr.isRepo xs) (Tr.chk (isL ys) (Tr.chk (lensL (decL ys)) (Tr.br (!smallW (Gr.toRepo xs) (decL ys)) (Tr.leaf (R.out [V.c (C.bool true)] [])) (Tr.br (decide (100 < (↑q.length : Int))) (Tr.leaf (R.out [V.c (C.bool true)] [])) (Tr.chk (Gr.isRepo xs) (Tr.chk (Gr.smallB (Gr.toRepo xs)) (Tr.chk (isL ys) (Tr.chk (decide (ys.length < 4294967296)) (Tr.chk (Gr.isRepo xs) (Tr.chk (Gr.smallB (Gr.toRepo xs)) (Tr.ls 0 (s5_0 nl tt xs kn kt ys n q t (none) false (rns (runsP (backP (Gr.toRepo xs) (decL ys) n q t))) (none) false (ints (Gr.firstG (Gr.toRepo xs) n)) (0)))))))))))))) := by kernel_rfl
noncomputable abbrev p6 : Par := par E sh (ctOf [(14, s14), (17, s17), (18, s18), (23, s23), (25, Gr.s25), (26, s26), (28, Gr.s28), (29, Gr.s29)]) 6 4 0
abbrev s6_0 (nl : Option Bool) (tt : Bool) (xs : List (List C)) (kn : Option Bool) (kt : Bool) (ys : List (List C)) (n : Int) (q : List UInt8) (t : Int) (nl11 : Option Bool) (t11 : Bool) (xs11 : List (List C)) (i12 : Int) (nl13 : Option Bool) (t13 : Bool) (xs13 : List (List C)) (n14 : Nat) (b15 : Bool) (i16 : Int) (ih1 : Int) (ih1_1 : Int) (sh1 : List UInt8) (ys2 : List (List C)) : Fr × Hp := ([(1, V.c (C.int IntKind.i64 n)), (2, V.c (C.str q)), (3, V.c (C.int IntKind.i64 t)), (4, V.ptr 0 0 0 0), (9, V.ptr 1 0 0 0), (11, V.c (C.sl 1 nl11 t11 xs11)), (12, V.c (C.int IntKind.i64 i12)), (13, V.c (C.sl 1 nl13 t13 xs13)), (14, V.buf 2 0 0 n14), (15, V.c (C.bool b15)), (16, V.c (C.int IntKind.i64 i16))], [O.box [V.c (C.sl 2 nl tt xs), V.c (C.sl 3 kn kt ys)], O.box [V.c (C.int IntKind.i64 ih1), V.c (C.int IntKind.i64 ih1_1), V.c (C.str sh1)], O.mem 1 0 ys2])
noncomputable abbrev b6_0 : Code := loopAt (codeOf p6.E p6.g) 0
abbrev x6_0x0 (nl : Option Bool) (tt : Bool) (xs : List (List C)) (kn : Option Bool) (kt : Bool) (ys : List (List C)) (n : Int) (q : List UInt8) (t : Int) (nl11 : Option Bool) (t11 : Bool) (xs11 : List (List C)) (i12 : Int) (nl13 : Option Bool) (t13 : Bool) (xs13 : List (List C)) (n14 : Nat) (b15 : Bool) (i16 : Int) (ih1 : Int) (ih1_1 : Int) (sh1 : List UInt8) (ys2 : List (List C)) : Ex × Fr × Hp := (Ex.exit 0, [(1, V.c (C.int IntKind.i64 n)), (2, V.c (C.str q)), (3, V.c (C.int IntKind.i64 t)), (4, V.ptr 0 0 0 0), (9, V.ptr 1 0 0 0), (11, V.c (C.sl 1 nl11 t11 xs11)), (12, V.c (C.int IntKind.i64 i12)), (13, V.c (C.sl 1 nl13 t13 xs13)), (14, V.buf 2 0 0 n14), (15, V.c (C.bool b15)), (16, V.c (C.int IntKind.i64 i16)), (71, V.c (C.bool false))], [O.box [V.c (C.sl 2 nl tt xs), V.c (C.sl 3 kn kt ys)], O.box [V.c (C.int IntKind.i64 ih1), V.c (C.int IntKind.i64 ih1_1), V.c (C.str sh1)], O.mem 1 0 ys2])
theorem t6_0 (nl : Option Bool) (tt : Bool) (xs : List (List C)) (kn : Option Bool) (kt : Bool) (ys : List (List C)) (n : Int) (q : List UInt8) (t : Int) (nl11 : Option Bool) (t11 : Bool) (xs11 : List (List C)) (i12 : Int) (nl13 : Option Bool) (t13 : Bool) (xs13 : List (List C)) (n14 : Nat) (b15 : Bool) (i16 : Int) (ih1 : Int) (ih1_1 : Int) (sh1 : List UInt8) (ys2 : List (List C)) : p6.lts b6_0 (s6_0 nl tt xs kn kt ys n q t nl11 t11 xs11 i12 nl13 t13 xs13 n14 b15 i16 ih1 ih1_1 sh1 ys2) = (Tr.br (decide (i16 < (↑xs13.length : Int))) (Tr.chk (decide (0 ≤ i16)) (Tr.chk true (Tr.chk (decide (i16.toNat < xs13.length)) (Tr.chk (shOk [Sk.int IntKind.i64] (xs13.getD i16.toNat [])) (Tr.chk (Gr.isRepo xs) (Tr.chk (Gr.smallB (Gr.toRepo xs)) (Tr.chk (isL ys) (Tr.chk (decide (ys.length < 4294967296)) (Tr.br ((valueP (backP (Gr.toRepo xs) (decL ys) ((xs13.getD i16.toNat []).headD C.pnil).i q t)).k == ih1 && ((valueP (backP (Gr.toRepo xs) (decL ys) ((xs13.getD i16.toNat []).headD C.pnil).i q t)).n == ih1_1 && ((valueP (backP (Gr.toRepo xs) (decL ys) ((xs13.getD i16.toNat []).headD C.pnil).i q t)).s == sh1 && true))) (Tr.chk (decide (0 ≤ i16)) (Tr.chk true (Tr.chk (decide (i16.toNat < xs13.length)) (Tr.chk (shOk [Sk.int IntKind.i64] (xs13.getD i16.toNat [])) (Tr.chk true (Tr.chk true (Tr.chk (decide (n14 + 1 < 4294967296)) (Tr.chk true (Tr.br b15 (Tr.chk (decide (0 ≤ i16)) (Tr.chk true (Tr.chk (decide (i16.toNat < xs13.length)) (Tr.chk (shOk [Sk.int IntKind.i64] (xs13.getD i16.toNat [])) (Tr.br (decide (((xs13.getD i16.toNat []).headD C.pnil).i < i12)) (Tr.leaf (R.s (s6_0 nl tt xs kn kt ys n q t nl11 t11 xs11 i12 nl13 t13 xs13 (n14 + 1) true (IntKind.i64.wrap (i16 + 1)) ih1 ih1_1 sh1 (List.take n14 ys2 ++ [[(Sk.int IntKind.i64).mk ((xs13.getD i16.toNat []).headD C.pnil)]])))) (Tr.leaf (R.s (s6_0 nl tt xs kn kt ys n q t nl11 t11 xs11 i12 nl13 t13 xs13 (n14 + 1) ((valueP (backP (Gr.toRepo xs) (decL ys) ((xs13.getD i16.toNat []).headD C.pnil).i q t)).k == ih1 && ((valueP (backP (Gr.toRepo xs) (decL ys) ((xs13.getD i16.toNat []).headD C.pnil).i q t)).n == ih1_1 && ((valueP (backP (Gr.toRepo xs) (decL ys) ((xs13.getD i16.toNat []).headD C.pnil).i q t)).s == sh1 && true))) (IntKind.i64.wrap (i16 + 1)) ih1 ih1_1 sh1 (List.take n14 ys2 ++ [[(Sk.int IntKind.i64).mk ((xs13.getD i16.toNat []).headD C.pnil)]]))))))))) (Tr.leaf (R.s (s6_0 nl tt xs kn kt ys n q t nl11 t11 xs11 i12 nl13 t13 xs13 (n14 + 1) false (IntKind.i64.wrap (i16 + 1)) ih1 ih1_1 sh1 (List.take n14 ys2 ++ [[(Sk.int IntKind.i64).mk ((xs13.getD i16.toNat []).headD C.pnil)]]))))))))))))) (Tr.br b15 (Tr.chk (decide (0 ≤ i16)) (Tr.chk true (Tr.chk (decide (i16.toNat < xs13.length)) (Tr.chk (shOk [Sk.int IntKind.i64] (xs13.getD i16.toNat [])) (Tr.br (decide (((xs13.getD i16.toNat []).headD C.pnil).i < i12)) (Tr.leaf (R.s (s6_0 nl tt xs kn kt ys n q t nl11 t11 xs11 i12 nl13 t13 xs13 n14 true (IntKind.i64.wrap (i16 + 1)) ih1 ih1_1 sh1 ys2))) (Tr.leaf (R.s (s6_0 nl tt xs kn kt ys n q t nl11 t11 xs11 i12 nl13 t13 xs13 n14 ((valueP (backP (Gr.toRepo xs) (decL ys) ((xs13.getD i16.toNat []).headD C.pnil).i q t)).k == ih1 && ((valueP (backP (Gr.toRepo xs) (decL ys) ((xs13.getD i16.toNat []).headD C.pnil).i q t)).n == ih1_1 && ((valueP (backP (Gr.toRepo xs) (decL ys) ((xs13.getD i16.toNat []).headD C.pnil).i q t)).s == sh1 && true))) (IntKind.i64.wrap (i16 + 1)) ih1 ih1_1 sh1 ys2)))))))) (Tr.leaf (R.s (s6_0 nl tt xs kn kt ys n q t nl11 t11 xs11 i12 nl13 t13 xs13 n14 false (IntKind.i64.wrap (i16 + 1)) ih1 ih1_1 sh1 ys2))))))))))))) (Tr.leaf (R.x (x6_0x0 nl tt xs kn kt ys n q t nl11 t11 xs11 i12 nl13 t13 xs13 n14 b15 i16 ih1 ih1_1 sh1 ys2)))) := by kernel_rfl
theorem k6_0x0 (nl : Option Bool) (tt : Bool) (xs : List (List C)) (kn : Option Bool) (kt : Bool) (ys : List (List C)) (n : Int) (q : List UInt8) (t : Int) (nl11 : Option Bool) (t11 : Bool) (xs11 : List (List C)) (i12 : Int) (nl13 : Option Bool) (t13 : Bool) (xs13 : List (List C)) (n14 : Nat) (b15 : Bool) (i16 : Int) (ih1 : Int) (ih1_1 : Int) (sh1 : List UInt8) (ys2 : List (List C)) : p6.fkx 0 (x6_0x0 nl tt xs kn kt ys n q t nl11 t11 xs11 i12 nl13 t13 xs13 n14 b15 i16 ih1 ih1_1 sh1 ys2) = (Tr.chk (isInts xs11) (Tr.chk (isInts (List.take n14 ys2)) (Tr.chk (decide (xs11.length ≤ 4294967296)) (Tr.br (toInts xs11 == toInts (List.take n14 ys2)) (Tr.br b15 (Tr.chk (isInts xs11) (Tr.chk (decide (xs11.length < 4294967296)) (Tr.br ((toInts xs11).contains i12) (Tr.chk (isInts xs11) (Tr.chk (decide (xs11.length < 4294967296)) (Tr.br ((toInts xs11).contains n) (Tr.leaf (R.out [V.c (C.bool true)] [])) (Tr.leaf (R.out [V.c (C.bool false)] []))))) (Tr.leaf (R.out [V.c (C.bool false)] []))))) (Tr.leaf (R.out [V.c (C.bool false)] []))) (Tr.leaf (R.out [V.c (C.bool false)] [])))))) := by kernel_rfl
theorem t6 (nl : Option Bool) (tt : Bool) (xs : List (List C)) (kn : Option Bool) (kt : Bool) (ys : List (List C)) (n : Int) (q : List UInt8) (t : Int) : p6.ft ([V.agg [V.c (C.sl 2 nl tt xs), V.c (C.sl 3 kn kt ys)], V.i n, V.c (C.str q), V.i t]) ([]) = (Tr.chk (Gr.isRepo xs) (Tr.chk (isL ys) (Tr.chk (lensL (decL ys)) (Tr.br (!smallW (Gr.toRepo xs) (decL ys)) (Tr.leaf (R.out [V.c (C.bool true)] [])) (Tr.br (decide (100 < (↑q.length : Int))) (Tr.leaf (R.out [V.c (C.bool true)] [])) (Tr.chk (Gr.isRepo xs) (Tr.chk (Gr.smallB (Gr.toRepo xs)) (Tr.chk (isL ys) (Tr.chk (decide (ys.length < 4294967296)) (Tr.chk (Gr.isRepo xs) (Tr.chk (Gr.smallB (Gr.toRepo xs)) (Tr.chk (isL ys) (Tr.chk (decide (ys.length < 4294967296)) (Tr.chk (Gr.isRepo xs) (Tr.chk (Gr.smallB (Gr.toRepo xs)) (Tr.chk (isL ys) (Tr.chk (decide (ys.length < 4294967296)) (Tr.br (!(valueP (backP (Gr.toRepo xs) (decL ys) n q t)).k != 0) (Tr.br ((valueP (backP (Gr.toRepo xs) (decL ys) n q t)).k == 0 && ((valueP (backP (Gr.toRepo xs) (decL ys) n q t)).n == 0 && ((valueP (backP (Gr.toRepo xs) (decL ys) n q t)).s == [] && true))) (Tr.br ((↑(ints (everP (backP (Gr.toRepo xs) (decL ys) n q t) { k := (valueP (backP (Gr.toRepo xs) (decL ys) n q t)).k, n := (valueP (backP (Gr.toRepo xs) (decL ys) n q t)).n, s := (valueP (backP (Gr.toRepo xs) (decL ys) n q t)).s })).length : Int) == 0) (Tr.br (firstRn (runsP (backP (Gr.toRepo xs) (decL ys) n q t)) == 0) (Tr.leaf (R.out [V.c (C.bool true)] [])) (Tr.leaf (R.out [V.c (C.bool false)] []))) (Tr.leaf (R.out [V.c (C.bool false)] []))) (Tr.leaf (R.out [V.c (C.bool false)] []))) (Tr.chk (Gr.isRepo xs) (Tr.chk (Gr.smallB (Gr.toRepo xs)) (Tr.ls 0 (s6_0 nl tt xs kn kt ys n q t (none) false (ints (everP (backP (Gr.toRepo xs) (decL ys) n q t) { k := (valueP (backP (Gr.toRepo xs) (decL ys) n q t)).k, n := (valueP (backP (Gr.toRepo xs) (decL ys) n q t)).n, s := (valueP (backP (Gr.toRepo xs) (decL ys) n q t)).s })) (firstRn (runsP (backP (Gr.toRepo xs) (decL ys) n q t))) (none) false (ints (Gr.firstG (Gr.toRepo xs) n)) (0) true (0) ((valueP (backP (Gr.toRepo xs) (decL ys) n q t)).k) ((valueP (backP (Gr.toRepo xs) (decL ys) n q t)).n) ((valueP (backP (Gr.toRepo xs) (decL ys) n q t)).s) ([]))))))))))))))))))))))) := by kernel_rfl
end Go.Proofs.YtbilmkcdhodenaaDoor

end

/-
  Chapter 31 (search): the laws, but for their arguments' reading.
-/
section
namespace Go.Proofs.YtbilmkcdhodenaaDoor
open Go Go.Ev

/-- SearchHalves. -/
theorem f3 (l : List Rn) (n : Int) : call E 3 [.c (.sl 4 none false (rns l)), V.i n] [] = some ([V.b true], []) := by
  have hct : (ctOf [(14, s14), (15, s15), (16, s16)]).ok E := ctOf_cons s14_ok (ctOf_cons s15_ok (ctOf_cons s16_ok ctOf_nil))
  refine call_of (E := E) (sh := sh) (ct := ctOf [(14, s14), (15, s15), (16, s16)]) (na := 2) (m := 0) hct rfl rfl rfl rfl rfl rfl ?_
  rw [t3]
  simp only [fd_br, fd_chk', fd_leaf, rns_length, isRns_rns, toRns_rns, halves_same, beq_self_eq_true, if_true, decide_eq_true_eq]
  by_cases h : (300 : Int) < l.length
  · rw [if_pos h]
  · have h2 : l.length < 4294967296 := by omega
    simp only [h, h2, if_true, if_false]
/-! ## small worlds -/
mutual
theorem leftT_ent : ∀ (t : Nd) (n d : Int), 0 ≤ n → 0 < leftT t n d → ((entT t).length : Int) ≤ n - leftT t n d
  | .node lab rs ks, n, d, h0, h => by
    rw [leftT] at h ⊢
    split at h
    · omega
    · rename_i hc
      rw [if_neg hc]
      have := leftL_ent ks (n - 1 - ((lab.length / 50 : Nat) : Int)) (d - 1) (by omega) h
      have hl := entT_node [] lab rs ks
      rw [pre_nil] at hl
      rw [hl, List.length_append, pre_length]
      have ho : (ownE ([] ++ lab) rs).length ≤ 1 := by unfold ownE; split <;> simp
      omega
theorem leftL_ent : ∀ (l : List Nd) (n d : Int), 0 ≤ n → 0 < leftL l n d → ((entL l).length : Int) ≤ n - leftL l n d
  | [], n, d, h0, h => by rw [leftL, entL]; simp
  | t :: r, n, d, h0, h => by
    rw [leftL] at h ⊢
    split at h
    · rename_i hn
      rw [if_pos hn]
      have hle := leftT_le t n d h0
      have hpos : 0 < leftT t n d := by
        have := (leftL_le r (leftT t n d) d hle.1).2; omega
      have h1 := leftT_ent t n d h0 hpos
      have h2 := leftL_ent r (leftT t n d) d hle.1 h
      rw [entL, List.length_append]
      omega
    · omega
end
structure Sm (l : List Gr.Cm) (ks : List Nd) : Prop where
  l30 : l.length ≤ 30
  k30 : ks.length ≤ 30
  sm : Gr.smallB l = true
  few : fewE ks = true
theorem sm_of {l : List Gr.Cm} {ks : List Nd} (h : smallW l ks = true) : Sm l ks := by
  simp only [smallW, Bool.and_eq_true, decide_eq_true_eq] at h
  obtain ⟨⟨⟨h1, h2⟩, h3⟩, h4⟩ := h
  refine ⟨h1, h2, List.all_eq_true.2 fun c hc => ?_, List.all_eq_true.2 fun t ht => ?_⟩
  · have := List.all_eq_true.1 h3 c hc
    simp only [decide_eq_true_eq] at this ⊢; omega
  · have e1 := leftL_ent ks 600 60 (by omega) h4
    have e2 := entT_mem_len ht
    simp only [decide_eq_true_eq]; omega
/-- SearchTells. -/
theorem f4' (l : List Gr.Cm) (ks : List Nd) (hL : lensL ks = true) (n : Int) (q : List UInt8) (t : Int) (v : Val) : call E 4 [.agg [.c (.sl 2 none false (Gr.repo l)), .c (.sl 3 none false (encL ks))], V.i n, .c (.str q), V.i t, VV v] [] = some ([V.b true], []) := by
  obtain ⟨k, m, s⟩ := v
  have hct : (ctOf [(14, s14), (17, s17), (18, s18), (19, s19), (20, s20), (21, s21), (22, s22), (23, s23), (24, s24), (25, Gr.s25), (26, s26), (27, s27)]).ok E :=
    ctOf_cons s14_ok (ctOf_cons s17_ok (ctOf_cons s18_ok (ctOf_cons s19_ok (ctOf_cons s20_ok (ctOf_cons s21_ok (ctOf_cons s22_ok (ctOf_cons s23_ok (ctOf_cons s24_ok (ctOf_cons Gr.s25_ok (ctOf_cons s26_ok (ctOf_cons s27_ok ctOf_nil)))))))))))
  refine call_of (E := E) (sh := sh) (ct := ctOf [(14, s14), (17, s17), (18, s18), (19, s19), (20, s20), (21, s21), (22, s22), (23, s23), (24, s24), (25, Gr.s25), (26, s26), (27, s27)]) (na := 5) (m := 0) hct rfl rfl rfl rfl rfl rfl ?_
  rw [t4]
  by_cases hw : smallW l ks = true
  case neg =>
    rw [Bool.not_eq_true] at hw
    simp only [fd_br, fd_chk', fd_leaf, Gr.isRepo_repo, Gr.toRepo_repo, isL_enc, decL_enc, hL, hw, if_true, Bool.not_false]
  have h := sm_of hw
  have hk : ks.length < 4294967296 := by have := h.k30; omega
  have hev : (everP (backP l ks n q t) ⟨k, m, s⟩).length ≤ 4294967296 := by
    have h1 := backP_len l ks n q t
    have : (everP (backP l ks n q t) ⟨k, m, s⟩).length ≤ (backP l ks n q t).length := by
      unfold everP; rw [List.length_map]; exact List.length_filter_le _ _
    omega
  have hrn : (runsP (backP l ks n q t)).length < 4294967296 := by
    have h1 := backP_len l ks n q t
    have := runsP_len (backP l ks n q t); omega
  simp only [fd_br, fd_chk', fd_leaf, Gr.isRepo_repo, Gr.toRepo_repo, isL_enc, decL_enc, hL, hw, h.sm, h.few, hk, hev, hrn, encL_length, rns_length, isRns_rns, toRns_rns, ints_length, isInts_ints, toInts_ints, valueR_eq, runsR_eq, firstR2_eq, everR_eq, beq_self_eq_true, decide_true, Bool.and_self, if_true, Bool.not_true, Bool.false_eq_true, if_false]
  simp
/-- SearchBetween. -/
theorem f5' (l : List Gr.Cm) (ks : List Nd) (hL : lensL ks = true) (n : Int) (q : List UInt8) (t : Int) : call E 5 [.agg [.c (.sl 2 none false (Gr.repo l)), .c (.sl 3 none false (encL ks))], V.i n, .c (.str q), V.i t] [] = some ([V.b true], []) := by
  have hct : (ctOf [(14, s14), (15, s15), (17, s17), (18, s18), (21, s21), (23, s23), (28, Gr.s28)]).ok E :=
    ctOf_cons s14_ok (ctOf_cons s15_ok (ctOf_cons s17_ok (ctOf_cons s18_ok (ctOf_cons s21_ok (ctOf_cons s23_ok (ctOf_cons Gr.s28_ok ctOf_nil))))))
  refine call_of (E := E) (sh := sh) (ct := ctOf [(14, s14), (15, s15), (17, s17), (18, s18), (21, s21), (23, s23), (28, Gr.s28)]) (na := 4) (m := 0) hct rfl rfl rfl rfl rfl rfl ?_
  rw [t5]
  by_cases hw : smallW l ks = true
  case neg =>
    rw [Bool.not_eq_true] at hw
    simp only [fd_br, fd_chk', fd_leaf, Gr.isRepo_repo, Gr.toRepo_repo, isL_enc, decL_enc, hL, hw, if_true, Bool.not_false]
  have h := sm_of hw
  have hk : ks.length < 4294967296 := by have := h.k30; omega
  simp only [fd_br, fd_chk', fd_leaf, Gr.isRepo_repo, Gr.toRepo_repo, isL_enc, decL_enc, hL, hw, h.sm, hk, encL_length, decide_true, if_true, Bool.not_true, Bool.false_eq_true, if_false, decide_eq_true_eq]
  by_cases hq : (100 : Int) < q.length
  · rw [if_pos hq]
  rw [if_neg hq]
  have hbt : ∀ x ∈ Gr.firstG l n, _ := fun x hx => between l ks n q t hx
  have hFl := firstG_len l n
  have hrn : (runsP (backP l ks n q t)).length ≤ 501 := by
    have h1 := backP_len l ks n q t
    have := runsP_len (backP l ks n q t); omega
  have hfi : firstRn (runsP (backP l ks n q t)) = firstRn (runsP (backP l ks n q t)) := rfl
  generalize hrs : runsP (backP l ks n q t) = rs at *
  generalize Gr.firstG l n = F at *
  refine fd_post hct (by kernel_rfl) rfl (list_post (p := p5) hct (b := b5_0) F.length (fun k (_ : Unit) => s5_0 none false (Gr.repo l) none false (encL ks) n q t none false (rns rs) none false (ints F) k) (fun _ _ => True) _ ?_ ?_ 0 (Nat.zero_le _) () trivial)
  · rintro k _ hk1 -
    left
    refine ⟨(), trivial, ?_⟩
    have hb := hbt F[k] (List.getElem_mem hk1)
    rw [t5_0]
    simp only [rns_length, en_ok, en_ok', isRns_rns, toRns_rns, rns_take, rns_drop, rns_append, rns_snoc', en_c, en_k, en_n, en_s, en_len, en_take, en_take3, en_mk, rns_set, nd_ok, nd_lab, nd_rows, nd_kids, encL_length, isL_enc, decL_enc, wrap_hd, hd_pos, ld_br, ld_chk', ld_leaf, fd_br, fd_chk', fd_leaf, decide_true, decide_eq_true_eq, if_true, Int.toNat_natCast, Int.natCast_nonneg, Int.ofNat_lt, Int.ofNat_le, Bool.false_eq_true, if_false, bne_iff_ne, beq_iff_eq, ne_eq, not_true_eq_false, not_false_eq_true, Bool.not_eq_true', decide_eq_false_iff_not, reduceCtorEq, rows_length, pcs_length, er_ok, er_ok', ep_ok, ep_ok', dr_er, dp_ep, isRows_rows, isPcs_pcs, toRows_rows, toPcs_pcs, rows_take, rows_drop, pcs_take, pcs_drop, rows_append, pcs_append, ints_length, isInts_ints, toInts_ints, ei_i, ei_ok, mk_headD, ints_take, ints_drop, ints_append, ints_snoc, ints_snoc', List.take_length, Nat.zero_add, Nat.le_refl, er_a, er_b, er_k, er_n, er_s, er_v, ep_a, ep_b, ep_hk, ep_hn, ep_hs, ep_wk, ep_wn, ep_ws, hk1, ints_getD hk1, int_at hk1, Gr.isRepo_repo, Gr.toRepo_repo, isL_enc, decL_enc, h.sm, hk, encL_length]
    generalize valueP (backP l ks F[k] q t) = v at *
    refine ld_post hct (by kernel_rfl) rfl (list_post (p := p5) hct (b := b5_0_0) rs.length (fun j (a : Int) => s5_0_0 none false (Gr.repo l) none false (encL ks) n q t none false (rns rs) none false (ints F) k a j v.k v.n v.s) (fun j a => atL F[k] j a (rs.drop j) = atL F[k] 0 (-1) rs) _ ?_ ?_ 0 (Nat.zero_le _) (-1) rfl)
    · rintro j a hj hi
      rw [List.drop_eq_getElem_cons hj, atL] at hi
      left
      refine ⟨if rs[j].c ≤ F[k] then (j : Int) else a, hi, ?_⟩
      rw [t5_0_0]
      simp only [rns_length, en_ok, en_ok', isRns_rns, toRns_rns, rns_take, rns_drop, rns_append, rns_snoc', en_c, en_k, en_n, en_s, en_len, en_take, en_take3, en_mk, rns_set, nd_ok, nd_lab, nd_rows, nd_kids, encL_length, isL_enc, decL_enc, wrap_hd, hd_pos, ld_br, ld_chk', ld_leaf, fd_br, fd_chk', fd_leaf, decide_true, decide_eq_true_eq, if_true, Int.toNat_natCast, Int.natCast_nonneg, Int.ofNat_lt, Int.ofNat_le, Bool.false_eq_true, if_false, bne_iff_ne, beq_iff_eq, ne_eq, not_true_eq_false, not_false_eq_true, Bool.not_eq_true', decide_eq_false_iff_not, reduceCtorEq, rows_length, pcs_length, er_ok, er_ok', ep_ok, ep_ok', dr_er, dp_ep, isRows_rows, isPcs_pcs, toRows_rows, toPcs_pcs, rows_take, rows_drop, pcs_take, pcs_drop, rows_append, pcs_append, ints_length, isInts_ints, toInts_ints, ei_i, ei_ok, mk_headD, ints_take, ints_drop, ints_append, ints_snoc, ints_snoc', List.take_length, Nat.zero_add, Nat.le_refl, er_a, er_b, er_k, er_n, er_s, er_v, ep_a, ep_b, ep_hk, ep_hn, ep_hs, ep_wk, ep_wn, ep_ws, hj, hk1, ints_getD hk1, int_at hk1, rns_getD hj, wrap_succ (show j < 9223372036854775807 by omega)]
      by_cases c : rs[j].c ≤ F[k]
      · rw [if_pos c, if_pos c]
      · rw [if_neg c, if_neg c]
    · rintro a hi
      rw [List.drop_length, atL] at hi
      rw [t5_0_0]
      refine ⟨x5_0_0x0 none false (Gr.repo l) none false (encL ks) n q t none false (rns rs) none false (ints F) k a rs.length v.k v.n v.s, by simp, ?_, by simp only [rns_length, en_ok, en_ok', isRns_rns, toRns_rns, rns_take, rns_drop, rns_append, rns_snoc', en_c, en_k, en_n, en_s, en_len, en_take, en_take3, en_mk, rns_set, nd_ok, nd_lab, nd_rows, nd_kids, encL_length, isL_enc, decL_enc, wrap_hd, hd_pos, ld_br, ld_chk', ld_leaf, fd_br, fd_chk', fd_leaf, decide_true, decide_eq_true_eq, if_true, Int.toNat_natCast, Int.natCast_nonneg, Int.ofNat_lt, Int.ofNat_le, Bool.false_eq_true, if_false, bne_iff_ne, beq_iff_eq, ne_eq, not_true_eq_false, not_false_eq_true, Bool.not_eq_true', decide_eq_false_iff_not, reduceCtorEq, rows_length, pcs_length, er_ok, er_ok', ep_ok, ep_ok', dr_er, dp_ep, isRows_rows, isPcs_pcs, toRows_rows, toPcs_pcs, rows_take, rows_drop, pcs_take, pcs_drop, rows_append, pcs_append, ints_length, isInts_ints, toInts_ints, ei_i, ei_ok, mk_headD, ints_take, ints_drop, ints_append, ints_snoc, ints_snoc', List.take_length, Nat.zero_add, Nat.le_refl, er_a, er_b, er_k, er_n, er_s, er_v, ep_a, ep_b, ep_hk, ep_hn, ep_hs, ep_wk, ep_wn, ep_ws, Int.lt_irrefl]⟩
      rw [k5_0_0x0]
      rw [hb.1] at hi
      have hw2 : IntKind.wrap .i64 ((k : Int) + 1) = ((k + 1 : Nat) : Int) := wrap_succ (by omega)
      rcases hb.2 with ⟨h1, h2⟩ | ⟨j, h1, hj, h2⟩
      · rw [h1] at hi
        subst hi
        simp only [rns_length, en_ok, en_ok', isRns_rns, toRns_rns, rns_take, rns_drop, rns_append, rns_snoc', en_c, en_k, en_n, en_s, en_len, en_take, en_take3, en_mk, rns_set, nd_ok, nd_lab, nd_rows, nd_kids, encL_length, isL_enc, decL_enc, wrap_hd, hd_pos, ld_br, ld_chk', ld_leaf, fd_br, fd_chk', fd_leaf, decide_true, decide_eq_true_eq, if_true, Int.toNat_natCast, Int.natCast_nonneg, Int.ofNat_lt, Int.ofNat_le, Bool.false_eq_true, if_false, bne_iff_ne, beq_iff_eq, ne_eq, not_true_eq_false, not_false_eq_true, Bool.not_eq_true', decide_eq_false_iff_not, reduceCtorEq, rows_length, pcs_length, er_ok, er_ok', ep_ok, ep_ok', dr_er, dp_ep, isRows_rows, isPcs_pcs, toRows_rows, toPcs_pcs, rows_take, rows_drop, pcs_take, pcs_drop, rows_append, pcs_append, ints_length, isInts_ints, toInts_ints, ei_i, ei_ok, mk_headD, ints_take, ints_drop, ints_append, ints_snoc, ints_snoc', List.take_length, Nat.zero_add, Nat.le_refl, er_a, er_b, er_k, er_n, er_s, er_v, ep_a, ep_b, ep_hk, ep_hn, ep_hs, ep_wk, ep_wn, ep_ws, h2, hw2, show (-1 : Int) < 0 by omega, show ¬ (0 : Int) ≤ -1 by omega]
      · have hv : (v.k == v.k && (v.n == v.n && (v.s == v.s && true))) = true := by simp
        have h3 : ¬ ((j : Int) < 0) := by omega
        rw [← h1] at h3
        rw [h1] at hi
        subst hi
        simp only [rns_length, en_ok, en_ok', isRns_rns, toRns_rns, rns_take, rns_drop, rns_append, rns_snoc', en_c, en_k, en_n, en_s, en_len, en_take, en_take3, en_mk, rns_set, nd_ok, nd_lab, nd_rows, nd_kids, encL_length, isL_enc, decL_enc, wrap_hd, hd_pos, ld_br, ld_chk', ld_leaf, fd_br, fd_chk', fd_leaf, decide_true, decide_eq_true_eq, if_true, Int.toNat_natCast, Int.natCast_nonneg, Int.ofNat_lt, Int.ofNat_le, Bool.false_eq_true, if_false, bne_iff_ne, beq_iff_eq, ne_eq, not_true_eq_false, not_false_eq_true, Bool.not_eq_true', decide_eq_false_iff_not, reduceCtorEq, rows_length, pcs_length, er_ok, er_ok', ep_ok, ep_ok', dr_er, dp_ep, isRows_rows, isPcs_pcs, toRows_rows, toPcs_pcs, rows_take, rows_drop, pcs_take, pcs_drop, rows_append, pcs_append, ints_length, isInts_ints, toInts_ints, ei_i, ei_ok, mk_headD, ints_take, ints_drop, ints_append, ints_snoc, ints_snoc', List.take_length, Nat.zero_add, Nat.le_refl, er_a, er_b, er_k, er_n, er_s, er_v, ep_a, ep_b, ep_hk, ep_hn, ep_hs, ep_wk, ep_wn, ep_ws, hj, rns_getD hj, hv, h2, Bool.true_eq_false, hw2, h1, hk1, ints_getD hk1, int_at hk1, show rs.length < 4294967296 by omega, show ¬ ((j : Int) < 0) by omega]
  · rintro _ -
    rw [t5_0]
    refine ⟨x5_0x2 none false (Gr.repo l) none false (encL ks) n q t none false (rns rs) none false (ints F) F.length, by simp, ?_, by simp only [rns_length, en_ok, en_ok', isRns_rns, toRns_rns, rns_take, rns_drop, rns_append, rns_snoc', en_c, en_k, en_n, en_s, en_len, en_take, en_take3, en_mk, rns_set, nd_ok, nd_lab, nd_rows, nd_kids, encL_length, isL_enc, decL_enc, wrap_hd, hd_pos, ld_br, ld_chk', ld_leaf, fd_br, fd_chk', fd_leaf, decide_true, decide_eq_true_eq, if_true, Int.toNat_natCast, Int.natCast_nonneg, Int.ofNat_lt, Int.ofNat_le, Bool.false_eq_true, if_false, bne_iff_ne, beq_iff_eq, ne_eq, not_true_eq_false, not_false_eq_true, Bool.not_eq_true', decide_eq_false_iff_not, reduceCtorEq, rows_length, pcs_length, er_ok, er_ok', ep_ok, ep_ok', dr_er, dp_ep, isRows_rows, isPcs_pcs, toRows_rows, toPcs_pcs, rows_take, rows_drop, pcs_take, pcs_drop, rows_append, pcs_append, ints_length, isInts_ints, toInts_ints, ei_i, ei_ok, mk_headD, ints_take, ints_drop, ints_append, ints_snoc, ints_snoc', List.take_length, Nat.zero_add, Nat.le_refl, er_a, er_b, er_k, er_n, er_s, er_v, ep_a, ep_b, ep_hk, ep_hn, ep_hs, ep_wk, ep_wn, ep_ws, Int.lt_irrefl]⟩
    rw [k5_0x2]
    simp only [Gr.isRepo_repo, Gr.toRepo_repo, isL_enc, decL_enc, h.sm, hk, encL_length, hrs, decide_true]
    rcases List.eq_nil_or_concat rs with rfl | ⟨o, y, rfl⟩
    · have w0 : IntKind.wrap .i64 (((rns ([] : List Rn)).length : Int) - 1) = -1 := rfl
      rw [w0]
      rfl
    · simp only [List.concat_eq_append] at *
      have hlen : (o ++ [y]).length = o.length + 1 := by simp
      have w1 : IntKind.wrap .i64 (((o ++ [y]).length : Int) - 1) = (o.length : Int) := by rw [hlen, wrap_same (by omega) (by omega)]; omega
      have hg : o.length < (o ++ [y]).length := by omega
      have hy : (o ++ [y])[o.length] = y := by simp
      have e1 : firstRn (o ++ [y]) = if y.v.k = 0 then 0 else y.c := by simp [firstRn]
      simp only [w1, rns_length, en_ok, en_ok', isRns_rns, toRns_rns, rns_take, rns_drop, rns_append, rns_snoc', en_c, en_k, en_n, en_s, en_len, en_take, en_take3, en_mk, rns_set, nd_ok, nd_lab, nd_rows, nd_kids, encL_length, isL_enc, decL_enc, wrap_hd, hd_pos, ld_br, ld_chk', ld_leaf, fd_br, fd_chk', fd_leaf, decide_true, decide_eq_true_eq, if_true, Int.toNat_natCast, Int.natCast_nonneg, Int.ofNat_lt, Int.ofNat_le, Bool.false_eq_true, if_false, bne_iff_ne, beq_iff_eq, ne_eq, not_true_eq_false, not_false_eq_true, Bool.not_eq_true', decide_eq_false_iff_not, reduceCtorEq, rows_length, pcs_length, er_ok, er_ok', ep_ok, ep_ok', dr_er, dp_ep, isRows_rows, isPcs_pcs, toRows_rows, toPcs_pcs, rows_take, rows_drop, pcs_take, pcs_drop, rows_append, pcs_append, ints_length, isInts_ints, toInts_ints, ei_i, ei_ok, mk_headD, ints_take, ints_drop, ints_append, ints_snoc, ints_snoc', List.take_length, Nat.zero_add, Nat.le_refl, er_a, er_b, er_k, er_n, er_s, er_v, ep_a, ep_b, ep_hk, ep_hn, ep_hs, ep_wk, ep_wn, ep_ws, rns_getD hg, hy, hg, e1]
      by_cases hz : y.v.k = 0 <;> simp [hz]
end Go.Proofs.YtbilmkcdhodenaaDoor

end

/-
  Chapter 31 (search): SearchEver, but for its arguments' reading.
-/
section
namespace Go.Proofs.YtbilmkcdhodenaaDoor
open Go Go.Ev

theorem since_spec (f : Int → Val) (v : Val) : ∀ (X : List Int) (a : Int), (a :: X).Pairwise (fun a b => b < a) → f a = v → sinceR f v a X ∈ a :: X ∧ f (sinceR f v a X) = v ∧ ∀ x ∈ a :: X, x < sinceR f v a X ∨ f x = v
  | [], a, _, ha => ⟨by simp [sinceR], ha, fun x hx => by simp at hx; subst hx; exact .inr ha⟩
  | k :: X, a, hd, ha => by
    obtain ⟨h1, h2⟩ := List.pairwise_cons.1 hd
    rw [sinceR]
    by_cases hk : f k = v
    · rw [if_pos hk]
      obtain ⟨i1, i2, i3⟩ := since_spec f v X k h2 hk
      refine ⟨List.mem_cons_of_mem _ i1, i2, fun x hx => ?_⟩
      rcases List.mem_cons.1 hx with rfl | hx
      · exact .inr ha
      · exact i3 x hx
    · rw [if_neg hk]
      refine ⟨by simp, ha, fun x hx => ?_⟩
      rcases List.mem_cons.1 hx with rfl | hx
      · exact .inr ha
      · exact .inl (h1 x hx)
theorem ever_no (l : List Gr.Cm) (ks : List Nd) (n : Int) (q : List UInt8) (t : Int) (h : (valueP (backP l ks n q t)).k = 0) : valueP (backP l ks n q t) = Val.none ∧ firstRn (runsP (backP l ks n q t)) = 0 := by
  refine ⟨?_, ?_⟩
  · rw [valueP_eq] at h ⊢
    split
    · rename_i hp
      rw [if_pos hp] at h
      exact (val_none ks q t n).1 h
    · rfl
  · rw [firstRn_eq]
    generalize backP l ks n q t = L at *
    cases L with
    | nil => rfl
    | cons s r =>
      have h' : s.v.k = 0 := h
      show (if s.v.k = 0 then 0 else (lastSame s r).c) = 0
      rw [if_pos h']
theorem ever_law (l : List Gr.Cm) (ks : List Nd) (n : Int) (q : List UInt8) (t : Int) (h : (valueP (backP l ks n q t)).k ≠ 0) :
    everP (backP l ks n q t) (valueP (backP l ks n q t)) = (Gr.firstG l n).filter (fun x => decide (valueP (backP l ks x q t) = valueP (backP l ks n q t))) ∧
    (∀ x ∈ Gr.firstG l n, x < firstRn (runsP (backP l ks n q t)) ∨ valueP (backP l ks x q t) = valueP (backP l ks n q t)) ∧
    firstRn (runsP (backP l ks n q t)) ∈ everP (backP l ks n q t) (valueP (backP l ks n q t)) ∧ n ∈ everP (backP l ks n q t) (valueP (backP l ks n q t)) := by
  have hp : isP l ks n = true := by
    cases hc : isP l ks n with
    | true => rfl
    | false => exact absurd (by rw [valueP_eq, hc]; rfl) h
  obtain ⟨h1, h2, h3, h4⟩ := isP_facts hp
  obtain ⟨F, g1, g2, g3⟩ := backP_is q t hp
  have hv : ∀ x ∈ Gr.firstG l n, valueP (backP l ks x q t) = valAt ks q t x := fun x hx => val_first l ks n q t h3 hx
  have hn : valueP (backP l ks n q t) = valAt ks q t n := hv n (by rw [g1]; simp)
  rw [hn] at h ⊢
  have hE : everP (backP l ks n q t) (valAt ks q t n) = (n :: F).filter fun k => decide (valAt ks q t k = valAt ks q t n) := by
    rw [g3, filter_mk _ _ h]
  have hF : firstRn (runsP (backP l ks n q t)) = sinceR (valAt ks q t) (valAt ks q t n) n F := by
    rw [firstRn_eq, g3]
    show (if (valAt ks q t n).k = 0 then 0 else (lastSame ⟨n, valAt ks q t n⟩ (mk (valAt ks q t) F)).c) = _
    rw [if_neg h, since_mk]
  obtain ⟨s1, s2, s3⟩ := since_spec (valAt ks q t) (valAt ks q t n) F n g2 rfl
  rw [hE, hF]
  refine ⟨?_, ?_, ?_, ?_⟩
  · rw [g1]
    refine List.filter_congr fun x hx => ?_
    rw [hv x (by rw [g1]; exact hx)]
  · intro x hx
    rw [hv x hx]
    rw [g1] at hx
    exact s3 x hx
  · exact List.mem_filter.2 ⟨s1, by simpa using s2⟩
  · exact List.mem_filter.2 ⟨by simp, by simp⟩
/-- SearchEver. -/
theorem f6' (l : List Gr.Cm) (ks : List Nd) (hL : lensL ks = true) (n : Int) (q : List UInt8) (t : Int) : call E 6 [.agg [.c (.sl 2 none false (Gr.repo l)), .c (.sl 3 none false (encL ks))], V.i n, .c (.str q), V.i t] [] = some ([V.b true], []) := by
  have hct : (ctOf [(14, s14), (17, s17), (18, s18), (23, s23), (25, Gr.s25), (26, s26), (28, Gr.s28), (29, Gr.s29)]).ok E :=
    ctOf_cons s14_ok (ctOf_cons s17_ok (ctOf_cons s18_ok (ctOf_cons s23_ok (ctOf_cons Gr.s25_ok (ctOf_cons s26_ok (ctOf_cons Gr.s28_ok (ctOf_cons Gr.s29_ok ctOf_nil)))))))
  refine call_of (E := E) (sh := sh) (ct := ctOf [(14, s14), (17, s17), (18, s18), (23, s23), (25, Gr.s25), (26, s26), (28, Gr.s28), (29, Gr.s29)]) (na := 4) (m := 0) hct rfl rfl rfl rfl rfl rfl ?_
  rw [t6]
  by_cases hw : smallW l ks = true
  case neg =>
    rw [Bool.not_eq_true] at hw
    simp only [fd_br, fd_chk', fd_leaf, Gr.isRepo_repo, Gr.toRepo_repo, isL_enc, decL_enc, hL, hw, if_true, Bool.not_false]
  have h := sm_of hw
  have hk : ks.length < 4294967296 := by have := h.k30; omega
  simp only [fd_br, fd_chk', fd_leaf, Gr.isRepo_repo, Gr.toRepo_repo, isL_enc, decL_enc, hL, hw, h.sm, hk, encL_length, decide_true, if_true, Bool.not_true, Bool.false_eq_true, if_false, decide_eq_true_eq]
  by_cases hq : (100 : Int) < q.length
  · rw [if_pos hq]
  rw [if_neg hq]
  by_cases hz : (valueP (backP l ks n q t)).k = 0
  · obtain ⟨z1, z2⟩ := ever_no l ks n q t hz
    have z3 := everP_zero (backP l ks n q t) Val.none rfl
    rw [z1, z2]
    have z4 : everP (backP l ks n q t) ⟨Val.none.k, Val.none.n, Val.none.s⟩ = [] := z3
    rw [z4]
    rfl
  obtain ⟨e1, e2, e3, e4⟩ := ever_law l ks n q t hz
  have hFl := firstG_len l n
  rw [if_neg (by simp [hz])]
  have hev : (everP (backP l ks n q t) (valueP (backP l ks n q t))).length ≤ 501 := by
    rw [e1]; exact Nat.le_trans (List.length_filter_le _ _) hFl
  generalize everP (backP l ks n q t) (valueP (backP l ks n q t)) = EV at *
  generalize firstRn (runsP (backP l ks n q t)) = fi at *
  generalize valueP (backP l ks n q t) = v at *
  generalize Gr.firstG l n = F at *
  refine fd_post hct (by kernel_rfl) rfl (list_post (p := p6) hct (b := b6_0) F.length (fun k (acc : List Int) => s6_0 none false (Gr.repo l) none false (encL ks) n q t none false (ints EV) fi none false (ints F) acc.length true k v.k v.n v.s (ints acc)) (fun k acc => acc ++ (F.drop k).filter (fun x => decide (valueP (backP l ks x q t) = v)) = EV ∧ acc.length ≤ k) _ ?_ ?_ 0 (Nat.zero_le _) [] ⟨by rw [e1]; rfl, by simp⟩)
  · rintro k acc hk1 ⟨hi, hn⟩
    rw [List.drop_eq_getElem_cons hk1, List.filter_cons] at hi
    have hx := e2 F[k] (List.getElem_mem hk1)
    have ht : List.take acc.length (ints acc) = ints acc := by rw [← ints_length acc, List.take_length]
    have hn2 : acc.length + 1 < 4294967296 := by omega
    rw [t6_0]
    simp only [rns_length, en_ok, en_ok', isRns_rns, toRns_rns, rns_take, rns_drop, rns_append, rns_snoc', en_c, en_k, en_n, en_s, en_len, en_take, en_take3, en_mk, rns_set, nd_ok, nd_lab, nd_rows, nd_kids, encL_length, isL_enc, decL_enc, wrap_hd, hd_pos, ld_br, ld_chk', ld_leaf, fd_br, fd_chk', fd_leaf, decide_true, decide_eq_true_eq, if_true, Int.toNat_natCast, Int.natCast_nonneg, Int.ofNat_lt, Int.ofNat_le, Bool.false_eq_true, if_false, bne_iff_ne, beq_iff_eq, ne_eq, not_true_eq_false, not_false_eq_true, Bool.not_eq_true', decide_eq_false_iff_not, reduceCtorEq, rows_length, pcs_length, er_ok, er_ok', ep_ok, ep_ok', dr_er, dp_ep, isRows_rows, isPcs_pcs, toRows_rows, toPcs_pcs, rows_take, rows_drop, pcs_take, pcs_drop, rows_append, pcs_append, ints_length, isInts_ints, toInts_ints, ei_i, ei_ok, mk_headD, ints_take, ints_drop, ints_append, ints_snoc, ints_snoc', List.take_length, Nat.zero_add, Nat.le_refl, er_a, er_b, er_k, er_n, er_s, er_v, ep_a, ep_b, ep_hk, ep_hn, ep_hs, ep_wk, ep_wn, ep_ws, hk1, ints_getD hk1, int_at hk1, Gr.isRepo_repo, Gr.toRepo_repo, isL_enc, decL_enc, h.sm, hk, encL_length, ht, hn2]
    have hv := val_eqb (valueP (backP l ks F[k] q t)) v
    have hw2 : IntKind.wrap .i64 ((k : Int) + 1) = ((k + 1 : Nat) : Int) := wrap_succ (by omega)
    generalize valueP (backP l ks F[k] q t) = u at *
    simp only [hv, hw2, decide_eq_true_eq]
    left
    by_cases c : u = v
    · rw [if_pos (by simpa using c)] at hi
      refine ⟨acc ++ [F[k]], ⟨by simpa using hi, by simp; omega⟩, ?_⟩
      rw [if_pos c]
      by_cases c2 : F[k] < fi <;> simp [c2, c]
    · rw [if_neg (by simpa using c)] at hi
      have c2 : F[k] < fi := hx.resolve_right c
      refine ⟨acc, ⟨hi, by omega⟩, ?_⟩
      rw [if_neg c, if_pos c2]
  · rintro acc ⟨hi, hn⟩
    rw [List.drop_length, List.filter_nil, List.append_nil] at hi
    subst hi
    have ht : List.take acc.length (ints acc) = ints acc := by rw [← ints_length acc, List.take_length]
    rw [t6_0]
    refine ⟨x6_0x0 none false (Gr.repo l) none false (encL ks) n q t none false (ints acc) fi none false (ints F) acc.length true F.length v.k v.n v.s (ints acc), by simp, ?_, by simp only [rns_length, en_ok, en_ok', isRns_rns, toRns_rns, rns_take, rns_drop, rns_append, rns_snoc', en_c, en_k, en_n, en_s, en_len, en_take, en_take3, en_mk, rns_set, nd_ok, nd_lab, nd_rows, nd_kids, encL_length, isL_enc, decL_enc, wrap_hd, hd_pos, ld_br, ld_chk', ld_leaf, fd_br, fd_chk', fd_leaf, decide_true, decide_eq_true_eq, if_true, Int.toNat_natCast, Int.natCast_nonneg, Int.ofNat_lt, Int.ofNat_le, Bool.false_eq_true, if_false, bne_iff_ne, beq_iff_eq, ne_eq, not_true_eq_false, not_false_eq_true, Bool.not_eq_true', decide_eq_false_iff_not, reduceCtorEq, rows_length, pcs_length, er_ok, er_ok', ep_ok, ep_ok', dr_er, dp_ep, isRows_rows, isPcs_pcs, toRows_rows, toPcs_pcs, rows_take, rows_drop, pcs_take, pcs_drop, rows_append, pcs_append, ints_length, isInts_ints, toInts_ints, ei_i, ei_ok, mk_headD, ints_take, ints_drop, ints_append, ints_snoc, ints_snoc', List.take_length, Nat.zero_add, Nat.le_refl, er_a, er_b, er_k, er_n, er_s, er_v, ep_a, ep_b, ep_hk, ep_hn, ep_hs, ep_wk, ep_wn, ep_ws, Int.lt_irrefl]⟩
    rw [k6_0x0]
    have c1 : acc.contains fi = true := by simpa using e3
    have c2 : acc.contains n = true := by simpa using e4
    simp only [rns_length, en_ok, en_ok', isRns_rns, toRns_rns, rns_take, rns_drop, rns_append, rns_snoc', en_c, en_k, en_n, en_s, en_len, en_take, en_take3, en_mk, rns_set, nd_ok, nd_lab, nd_rows, nd_kids, encL_length, isL_enc, decL_enc, wrap_hd, hd_pos, ld_br, ld_chk', ld_leaf, fd_br, fd_chk', fd_leaf, decide_true, decide_eq_true_eq, if_true, Int.toNat_natCast, Int.natCast_nonneg, Int.ofNat_lt, Int.ofNat_le, Bool.false_eq_true, if_false, bne_iff_ne, beq_iff_eq, ne_eq, not_true_eq_false, not_false_eq_true, Bool.not_eq_true', decide_eq_false_iff_not, reduceCtorEq, rows_length, pcs_length, er_ok, er_ok', ep_ok, ep_ok', dr_er, dp_ep, isRows_rows, isPcs_pcs, toRows_rows, toPcs_pcs, rows_take, rows_drop, pcs_take, pcs_drop, rows_append, pcs_append, ints_length, isInts_ints, toInts_ints, ei_i, ei_ok, mk_headD, ints_take, ints_drop, ints_append, ints_snoc, ints_snoc', List.take_length, Nat.zero_add, Nat.le_refl, er_a, er_b, er_k, er_n, er_s, er_v, ep_a, ep_b, ep_hk, ep_hn, ep_hs, ep_wk, ep_wn, ep_ws, ht, show acc.length ≤ 4294967296 by omega, show acc.length < 4294967296 by omega, c1, c2]
end Go.Proofs.YtbilmkcdhodenaaDoor

end
