/-
  Chapter 31 (search), trees, written by a program: who goes along the commits.
-/
import Derived.Test.YtbilmkcdhodenaaDoorXD
set_option linter.all false
set_option linter.unusedSimpArgs false
set_option linter.unusedVariables false
section
namespace Go.Proofs.YtbilmkcdhodenaaDoor
open Go Go.Ev
set_option pp.deepTerms true
set_option pp.maxSteps 1000000
set_option pp.funBinderTypes true
set_option pp.coercions.types true
noncomputable abbrev p18 : Par := par E sh (ctOf [(60, s60)]) 18 4 0
abbrev s18_0 (nl : Option Bool) (tt : Bool) (xs : List (List C)) (kn : Option Bool) (kt : Bool) (ys : List (List C)) (n : Int) (q : List UInt8) (t : Int) (ih0 : Int) (ih0_1 : Int) (sh0 : List UInt8) (bh1 : Bool) : Fr × Hp := ([(8, V.ptr 0 0 0 0), (9, V.ptr 1 0 0 0), (15, V.fn 100 [V.ptr 2 0 0 0, V.ptr 3 0 0 0, V.ptr 4 0 0 0, V.ptr 5 0 0 0])], [O.box [V.c (C.int IntKind.i64 ih0), V.c (C.int IntKind.i64 ih0_1), V.c (C.str sh0)], O.box [V.c (C.bool bh1)], O.box [V.c (C.sl 2 nl tt xs), V.c (C.sl 3 kn kt ys)], O.box [V.c (C.int IntKind.i64 n)], O.box [V.c (C.str q)], O.box [V.c (C.int IntKind.i64 t)]])
noncomputable abbrev b18_0 : Code := loopAt (codeOf p18.E p18.g) 0
abbrev g18_0 (ih0 : Int) (ih0_1 : Int) (sh0 : List UInt8) (bh1 : Bool) : Fr × Hp := ([(8, V.ptr 0 0 0 0), (9, V.ptr 1 0 0 0), (15, V.fn 100 [V.ptr 2 0 0 0, V.ptr 3 0 0 0, V.ptr 4 0 0 0, V.ptr 5 0 0 0])], [O.box [V.c (C.int IntKind.i64 ih0), V.c (C.int IntKind.i64 ih0_1), V.c (C.str sh0)], O.box [V.c (C.bool bh1)], O.gone, O.gone, O.gone, O.gone])
noncomputable abbrev p18_0 : Par := p18.deep 6
abbrev x18_0x0 (c1 : Int) (k1 : Int) (m1 : Int) (s1 : List UInt8) (bh1_1 : Bool) : Ex × Fr × Hp := (Ex.ret, [(8, V.ptr 0 0 0 0), (9, V.ptr 1 0 0 0), (15, V.fn 100 [V.ptr 2 0 0 0, V.ptr 3 0 0 0, V.ptr 4 0 0 0, V.ptr 5 0 0 0])], [O.box [V.c (C.int IntKind.i64 k1), V.c (C.int IntKind.i64 m1), V.c (C.str s1)], O.box [V.c (C.bool bh1_1)], O.gone, O.gone, O.gone, O.gone, O.box [V.c (C.int IntKind.i64 c1), V.c (C.int IntKind.i64 k1), V.c (C.int IntKind.i64 m1), V.c (C.str s1)]])
abbrev x18_0n (ih0 : Int) (ih0_1 : Int) (sh0 : List UInt8) (bh1 : Bool) : Ex × Fr × Hp := (Ex.nrm, [(8, V.ptr 0 0 0 0), (9, V.ptr 1 0 0 0), (15, V.fn 100 [V.ptr 2 0 0 0, V.ptr 3 0 0 0, V.ptr 4 0 0 0, V.ptr 5 0 0 0])], [O.box [V.c (C.int IntKind.i64 ih0), V.c (C.int IntKind.i64 ih0_1), V.c (C.str sh0)], O.box [V.c (C.bool bh1)], O.gone, O.gone, O.gone, O.gone])
theorem t18_0 (ih0 : Int) (ih0_1 : Int) (sh0 : List UInt8) (bh1 : Bool) (c1 : Int) (k1 : Int) (m1 : Int) (s1 : List UInt8) : p18.rts b18_0 ([V.agg [V.i c1, V.i k1, V.i m1, V.c (C.str s1)]]) (g18_0 ih0 ih0_1 sh0 bh1) = (Tr.leaf (R.x (x18_0x0 c1 k1 m1 s1 (k1 != 0)))) := by kernel_rfl
theorem k18_0n (ih0 : Int) (ih0_1 : Int) (sh0 : List UInt8) (bh1 : Bool) : p18.fkx 0 (x18_0n ih0 ih0_1 sh0 bh1) = (Tr.leaf (R.out [V.agg [V.c (C.int IntKind.i64 0), V.c (C.int IntKind.i64 0), V.c (C.str [])], V.c (C.bool false)] [])) := by kernel_rfl
theorem k18_0x0 (c1 : Int) (k1 : Int) (m1 : Int) (s1 : List UInt8) (bh1_1 : Bool) : p18.fkx 0 (x18_0x0 c1 k1 m1 s1 bh1_1) = (Tr.leaf (R.out [V.agg [V.c (C.int IntKind.i64 k1), V.c (C.int IntKind.i64 m1), V.c (C.str s1)], V.c (C.bool bh1_1)] [])) := by kernel_rfl
theorem t18 (nl : Option Bool) (tt : Bool) (xs : List (List C)) (kn : Option Bool) (kt : Bool) (ys : List (List C)) (n : Int) (q : List UInt8) (t : Int) : p18.ft ([V.agg [V.c (C.sl 2 nl tt xs), V.c (C.sl 3 kn kt ys)], V.i n, V.c (C.str q), V.i t]) ([]) = (Tr.rs 0 (s18_0 nl tt xs kn kt ys n q t (0) (0) ([]) false)) := by kernel_rfl
noncomputable abbrev p26 : Par := par E sh (ctOf [(60, s60)]) 26 5 0
abbrev s26_0 (nl : Option Bool) (tt : Bool) (xs : List (List C)) (kn : Option Bool) (kt : Bool) (ys : List (List C)) (n : Int) (q : List UInt8) (t : Int) (k : Int) (m : Int) (s : List UInt8) (nl10 : Option Bool) (t10 : Bool) (xs10 : List (List C)) (ys1 : List (List C)) (nh2 : Nat) : Fr × Hp := ([(9, V.ptr 0 0 0 0), (10, V.c (C.sl 1 nl10 t10 xs10)), (11, V.ptr 2 0 0 0), (17, V.fn 100 [V.ptr 3 0 0 0, V.ptr 4 0 0 0, V.ptr 5 0 0 0, V.ptr 6 0 0 0])], [O.box [V.c (C.int IntKind.i64 k), V.c (C.int IntKind.i64 m), V.c (C.str s)], O.mem 1 0 ys1, O.box [V.buf 1 0 0 nh2], O.box [V.c (C.sl 2 nl tt xs), V.c (C.sl 3 kn kt ys)], O.box [V.c (C.int IntKind.i64 n)], O.box [V.c (C.str q)], O.box [V.c (C.int IntKind.i64 t)]])
noncomputable abbrev b26_0 : Code := loopAt (codeOf p26.E p26.g) 0
abbrev g26_0 (k : Int) (m : Int) (s : List UInt8) (nl10 : Option Bool) (t10 : Bool) (xs10 : List (List C)) (ys1 : List (List C)) (nh2 : Nat) : Fr × Hp := ([(9, V.ptr 0 0 0 0), (10, V.c (C.sl 1 nl10 t10 xs10)), (11, V.ptr 2 0 0 0), (17, V.fn 100 [V.ptr 3 0 0 0, V.ptr 4 0 0 0, V.ptr 5 0 0 0, V.ptr 6 0 0 0])], [O.box [V.c (C.int IntKind.i64 k), V.c (C.int IntKind.i64 m), V.c (C.str s)], O.mem 1 0 ys1, O.box [V.buf 1 0 0 nh2], O.gone, O.gone, O.gone, O.gone])
noncomputable abbrev p26_0 : Par := p26.deep 7
abbrev x26_0n (k : Int) (m : Int) (s : List UInt8) (nl10 : Option Bool) (t10 : Bool) (xs10 : List (List C)) (ys1 : List (List C)) (nh2 : Nat) : Ex × Fr × Hp := (Ex.nrm, [(9, V.ptr 0 0 0 0), (10, V.c (C.sl 1 nl10 t10 xs10)), (11, V.ptr 2 0 0 0), (17, V.fn 100 [V.ptr 3 0 0 0, V.ptr 4 0 0 0, V.ptr 5 0 0 0, V.ptr 6 0 0 0])], [O.box [V.c (C.int IntKind.i64 k), V.c (C.int IntKind.i64 m), V.c (C.str s)], O.mem 1 0 ys1, O.box [V.buf 1 0 0 nh2], O.gone, O.gone, O.gone, O.gone])
theorem t26_0 (k : Int) (m : Int) (s : List UInt8) (nl10 : Option Bool) (t10 : Bool) (xs10 : List (List C)) (ys1 : List (List C)) (nh2 : Nat) (c1 : Int) (k1 : Int) (m1 : Int) (s1 : List UInt8) : p26.rts b26_0 ([V.agg [V.i c1, V.i k1, V.i m1, V.c (C.str s1)]]) (g26_0 k m s nl10 t10 xs10 ys1 nh2) = (Tr.br (k1 == k && (m1 == m && (s1 == s && true))) (Tr.br (k != 0) (Tr.chk true (Tr.chk true (Tr.chk (decide (nh2 + 1 < 4294967296)) (Tr.chk true (Tr.leaf (R.s (g26_0 k m s nl10 t10 xs10 (List.take nh2 ys1 ++ [[C.int IntKind.i64 c1]]) (nh2 + 1)))))))) (Tr.leaf (R.s (g26_0 k m s nl10 t10 xs10 ys1 nh2)))) (Tr.leaf (R.s (g26_0 k m s nl10 t10 xs10 ys1 nh2)))) := by kernel_rfl
theorem k26_0n (k : Int) (m : Int) (s : List UInt8) (nl10 : Option Bool) (t10 : Bool) (xs10 : List (List C)) (ys1 : List (List C)) (nh2 : Nat) : p26.fkx 0 (x26_0n k m s nl10 t10 xs10 ys1 nh2) = (Tr.leaf (R.out [V.c (C.sl 1 none false (List.take nh2 ys1))] [])) := by kernel_rfl
theorem t26 (nl : Option Bool) (tt : Bool) (xs : List (List C)) (kn : Option Bool) (kt : Bool) (ys : List (List C)) (n : Int) (q : List UInt8) (t : Int) (k : Int) (m : Int) (s : List UInt8) : p26.ft ([V.agg [V.c (C.sl 2 nl tt xs), V.c (C.sl 3 kn kt ys)], V.i n, V.c (C.str q), V.i t, V.agg [V.i k, V.i m, V.c (C.str s)]]) ([]) = (Tr.rs 0 (s26_0 nl tt xs kn kt ys n q t k m s (some true) true ([]) ([]) (0))) := by kernel_rfl
noncomputable abbrev p23 : Par := par E sh (ctOf [(21, s21)]) 23 4 0
theorem t23 (nl : Option Bool) (tt : Bool) (xs : List (List C)) (kn : Option Bool) (kt : Bool) (ys : List (List C)) (n : Int) (q : List UInt8) (t : Int) : p23.ft ([V.agg [V.c (C.sl 2 nl tt xs), V.c (C.sl 3 kn kt ys)], V.i n, V.c (C.str q), V.i t]) ([]) = (Tr.chk (Gr.isRepo xs) (Tr.chk (Gr.smallB (Gr.toRepo xs)) (Tr.chk (isL ys) (Tr.chk (decide (ys.length < 4294967296)) (Tr.br (decide (0 ≤ IntKind.i64.wrap ((↑(rns (runsP (backP (Gr.toRepo xs) (decL ys) n q t))).length : Int) - 1))) (Tr.chk (decide (0 ≤ IntKind.i64.wrap ((↑(rns (runsP (backP (Gr.toRepo xs) (decL ys) n q t))).length : Int) - 1))) (Tr.chk true (Tr.chk (decide ((IntKind.i64.wrap ((↑(rns (runsP (backP (Gr.toRepo xs) (decL ys) n q t))).length : Int) - 1)).toNat < (rns (runsP (backP (Gr.toRepo xs) (decL ys) n q t))).length)) (Tr.chk (shOk [Sk.int IntKind.i64, Sk.int IntKind.i64, Sk.int IntKind.i64, Sk.str] ((rns (runsP (backP (Gr.toRepo xs) (decL ys) n q t))).getD (IntKind.i64.wrap ((↑(rns (runsP (backP (Gr.toRepo xs) (decL ys) n q t))).length : Int) - 1)).toNat [])) (Tr.br ((((rns (runsP (backP (Gr.toRepo xs) (decL ys) n q t))).getD (IntKind.i64.wrap ((↑(rns (runsP (backP (Gr.toRepo xs) (decL ys) n q t))).length : Int) - 1)).toNat []).tail.headD C.pnil).i != 0) (Tr.chk (decide (0 ≤ IntKind.i64.wrap ((↑(rns (runsP (backP (Gr.toRepo xs) (decL ys) n q t))).length : Int) - 1))) (Tr.chk true (Tr.chk (decide ((IntKind.i64.wrap ((↑(rns (runsP (backP (Gr.toRepo xs) (decL ys) n q t))).length : Int) - 1)).toNat < (rns (runsP (backP (Gr.toRepo xs) (decL ys) n q t))).length)) (Tr.chk (shOk [Sk.int IntKind.i64, Sk.int IntKind.i64, Sk.int IntKind.i64, Sk.str] ((rns (runsP (backP (Gr.toRepo xs) (decL ys) n q t))).getD (IntKind.i64.wrap ((↑(rns (runsP (backP (Gr.toRepo xs) (decL ys) n q t))).length : Int) - 1)).toNat [])) (Tr.leaf (R.out [V.c (C.int IntKind.i64 (((rns (runsP (backP (Gr.toRepo xs) (decL ys) n q t))).getD (IntKind.i64.wrap ((↑(rns (runsP (backP (Gr.toRepo xs) (decL ys) n q t))).length : Int) - 1)).toNat []).headD C.pnil).i)] [])))))) (Tr.leaf (R.out [V.c (C.int IntKind.i64 0)] []))))))) (Tr.leaf (R.out [V.c (C.int IntKind.i64 0)] []))))))) := by kernel_rfl
noncomputable abbrev p19 : Par := par E sh (ctOf [(61, s61), (62, s62)]) 19 4 0
theorem t19 (nl : Option Bool) (tt : Bool) (xs : List (List C)) (kn : Option Bool) (kt : Bool) (ys : List (List C)) (n : Int) (q : List UInt8) (t : Int) : p19.ft ([V.agg [V.c (C.sl 2 nl tt xs), V.c (C.sl 3 kn kt ys)], V.i n, V.c (C.str q), V.i t]) ([]) = (Tr.chk (Gr.isRepo xs) (Tr.chk (Gr.smallB (Gr.toRepo xs)) (Tr.chk (isL ys) (Tr.chk (decide (ys.length < 4294967296)) (Tr.br (!isP (Gr.toRepo xs) (decL ys) n) (Tr.leaf (R.out [V.agg [V.c (C.int IntKind.i64 0), V.c (C.int IntKind.i64 0), V.c (C.str [])], V.c (C.bool false)] [])) (Tr.chk (isL ys) (Tr.chk (decide (1 ≤ n)) (Tr.chk (decide (n ≤ (↑ys.length : Int))) (Tr.chk (decide (ys.length < 4294967296)) (Tr.chk (fewE (decL ys)) (Tr.leaf (R.out [V.agg [V.c (C.int IntKind.i64 (valR2 (decL ys) q t n).k), V.c (C.int IntKind.i64 (valR2 (decL ys) q t n).n), V.c (C.str (valR2 (decL ys) q t n).s)], V.c (C.bool ((valR2 (decL ys) q t n).k != 0))] [])))))))))))) := by kernel_rfl
noncomputable abbrev p22 : Par := par E sh (ctOf [(61, s61), (62, s62), (64, Gr.s64)]) 22 4 0
abbrev s22_0 (nl : Option Bool) (tt : Bool) (xs : List (List C)) (kn : Option Bool) (kt : Bool) (ys : List (List C)) (q : List UInt8) (t : Int) (nl9 : Option Bool) (t9 : Bool) (xs9 : List (List C)) (n10 : Nat) (i12 : Int) (ys1 : List (List C)) (ih2 : Int) (ih2_1 : Int) (sh2 : List UInt8) : Fr × Hp := ([(2, V.c (C.str q)), (3, V.c (C.int IntKind.i64 t)), (4, V.ptr 0 0 0 0), (9, V.c (C.sl 1 nl9 t9 xs9)), (10, V.buf 1 0 0 n10), (11, V.ptr 2 0 0 0), (12, V.c (C.int IntKind.i64 i12))], [O.box [V.c (C.sl 2 nl tt xs), V.c (C.sl 3 kn kt ys)], O.mem 4 0 ys1, O.box [V.c (C.int IntKind.i64 ih2), V.c (C.int IntKind.i64 ih2_1), V.c (C.str sh2)]])
noncomputable abbrev b22_0 : Code := loopAt (codeOf p22.E p22.g) 0
abbrev x22_0x0 (nl : Option Bool) (tt : Bool) (xs : List (List C)) (kn : Option Bool) (kt : Bool) (ys : List (List C)) (q : List UInt8) (t : Int) (nl9 : Option Bool) (t9 : Bool) (xs9 : List (List C)) (n10 : Nat) (i12 : Int) (ys1 : List (List C)) (ih2 : Int) (ih2_1 : Int) (sh2 : List UInt8) : Ex × Fr × Hp := (Ex.exit 0, [(2, V.c (C.str q)), (3, V.c (C.int IntKind.i64 t)), (4, V.ptr 0 0 0 0), (9, V.c (C.sl 1 nl9 t9 xs9)), (10, V.buf 1 0 0 n10), (11, V.ptr 2 0 0 0), (12, V.c (C.int IntKind.i64 i12)), (27, V.c (C.bool false))], [O.box [V.c (C.sl 2 nl tt xs), V.c (C.sl 3 kn kt ys)], O.mem 4 0 ys1, O.box [V.c (C.int IntKind.i64 ih2), V.c (C.int IntKind.i64 ih2_1), V.c (C.str sh2)]])
theorem t22_0 (nl : Option Bool) (tt : Bool) (xs : List (List C)) (kn : Option Bool) (kt : Bool) (ys : List (List C)) (q : List UInt8) (t : Int) (nl9 : Option Bool) (t9 : Bool) (xs9 : List (List C)) (n10 : Nat) (i12 : Int) (ys1 : List (List C)) (ih2 : Int) (ih2_1 : Int) (sh2 : List UInt8) : p22.lts b22_0 (s22_0 nl tt xs kn kt ys q t nl9 t9 xs9 n10 i12 ys1 ih2 ih2_1 sh2) = (Tr.br (decide (0 ≤ i12)) (Tr.chk (decide (0 ≤ i12)) (Tr.chk true (Tr.chk (decide (i12.toNat < xs9.length)) (Tr.chk (shOk [Sk.int IntKind.i64] (xs9.getD i12.toNat [])) (Tr.chk (isL ys) (Tr.chk (decide (1 ≤ ((xs9.getD i12.toNat []).headD C.pnil).i)) (Tr.chk (decide (((xs9.getD i12.toNat []).headD C.pnil).i ≤ (↑ys.length : Int))) (Tr.chk (decide (ys.length < 4294967296)) (Tr.chk (fewE (decL ys)) (Tr.br (!((valR2 (decL ys) q t ((xs9.getD i12.toNat []).headD C.pnil).i).k == ih2 && ((valR2 (decL ys) q t ((xs9.getD i12.toNat []).headD C.pnil).i).n == ih2_1 && ((valR2 (decL ys) q t ((xs9.getD i12.toNat []).headD C.pnil).i).s == sh2 && true)))) (Tr.chk (decide (0 ≤ i12)) (Tr.chk true (Tr.chk (decide (i12.toNat < xs9.length)) (Tr.chk (shOk [Sk.int IntKind.i64] (xs9.getD i12.toNat [])) (Tr.chk true (Tr.chk true (Tr.chk (decide (n10 + 1 < 4294967296)) (Tr.chk true (Tr.leaf (R.s (s22_0 nl tt xs kn kt ys q t nl9 t9 xs9 (n10 + 1) (IntKind.i64.wrap (i12 - 1)) (List.take n10 ys1 ++ [[(Sk.int IntKind.i64).mk ((xs9.getD i12.toNat []).headD C.pnil), C.int IntKind.i64 (valR2 (decL ys) q t ((xs9.getD i12.toNat []).headD C.pnil).i).k, C.int IntKind.i64 (valR2 (decL ys) q t ((xs9.getD i12.toNat []).headD C.pnil).i).n, C.str (valR2 (decL ys) q t ((xs9.getD i12.toNat []).headD C.pnil).i).s]]) ((valR2 (decL ys) q t ((xs9.getD i12.toNat []).headD C.pnil).i).k) ((valR2 (decL ys) q t ((xs9.getD i12.toNat []).headD C.pnil).i).n) ((valR2 (decL ys) q t ((xs9.getD i12.toNat []).headD C.pnil).i).s)))))))))))) (Tr.leaf (R.s (s22_0 nl tt xs kn kt ys q t nl9 t9 xs9 n10 (IntKind.i64.wrap (i12 - 1)) ys1 ((valR2 (decL ys) q t ((xs9.getD i12.toNat []).headD C.pnil).i).k) ((valR2 (decL ys) q t ((xs9.getD i12.toNat []).headD C.pnil).i).n) ((valR2 (decL ys) q t ((xs9.getD i12.toNat []).headD C.pnil).i).s)))))))))))))) (Tr.leaf (R.x (x22_0x0 nl tt xs kn kt ys q t nl9 t9 xs9 n10 i12 ys1 ih2 ih2_1 sh2)))) := by kernel_rfl
theorem k22_0x0 (nl : Option Bool) (tt : Bool) (xs : List (List C)) (kn : Option Bool) (kt : Bool) (ys : List (List C)) (q : List UInt8) (t : Int) (nl9 : Option Bool) (t9 : Bool) (xs9 : List (List C)) (n10 : Nat) (i12 : Int) (ys1 : List (List C)) (ih2 : Int) (ih2_1 : Int) (sh2 : List UInt8) : p22.fkx 0 (x22_0x0 nl tt xs kn kt ys q t nl9 t9 xs9 n10 i12 ys1 ih2 ih2_1 sh2) = (Tr.leaf (R.out [V.c (C.sl 4 none false (List.take n10 ys1))] [])) := by kernel_rfl
theorem t22 (nl : Option Bool) (tt : Bool) (xs : List (List C)) (kn : Option Bool) (kt : Bool) (ys : List (List C)) (n : Int) (q : List UInt8) (t : Int) : p22.ft ([V.agg [V.c (C.sl 2 nl tt xs), V.c (C.sl 3 kn kt ys)], V.i n, V.c (C.str q), V.i t]) ([]) = (Tr.chk (Gr.isRepo xs) (Tr.chk (Gr.smallB (Gr.toRepo xs)) (Tr.chk (isL ys) (Tr.chk (decide (ys.length < 4294967296)) (Tr.br (!isP (Gr.toRepo xs) (decL ys) n) (Tr.leaf (R.out [V.c (C.sl 4 none false [])] [])) (Tr.chk (Gr.isRepo xs) (Tr.chk (Gr.smallB (Gr.toRepo xs)) (Tr.ls 0 (s22_0 nl tt xs kn kt ys q t (none) false (ints (Gr.firstR (Gr.toRepo xs) n)) (0) (IntKind.i64.wrap ((↑(ints (Gr.firstR (Gr.toRepo xs) n)).length : Int) - 1)) ([]) (0) (0) ([])))))))))) := by kernel_rfl
noncomputable abbrev p24 : Par := par E sh (ctOf [(19, s19), (62, s62), (64, Gr.s64)]) 24 4 0
abbrev s24_0 (nl : Option Bool) (tt : Bool) (xs : List (List C)) (kn : Option Bool) (kt : Bool) (ys : List (List C)) (n : Int) (q : List UInt8) (t : Int) (nl11 : Option Bool) (t11 : Bool) (xs11 : List (List C)) (i13 : Int) (ih1 : Int) (ih1_1 : Int) (sh1 : List UInt8) : Fr × Hp := ([(2, V.c (C.str q)), (3, V.c (C.int IntKind.i64 t)), (4, V.ptr 0 0 0 0), (9, V.ptr 1 0 0 0), (11, V.c (C.sl 1 nl11 t11 xs11)), (12, V.c (C.int IntKind.i64 n)), (13, V.c (C.int IntKind.i64 i13))], [O.box [V.c (C.sl 2 nl tt xs), V.c (C.sl 3 kn kt ys)], O.box [V.c (C.int IntKind.i64 ih1), V.c (C.int IntKind.i64 ih1_1), V.c (C.str sh1)]])
noncomputable abbrev b24_0 : Code := loopAt (codeOf p24.E p24.g) 0
abbrev x24_0x0 (nl : Option Bool) (tt : Bool) (xs : List (List C)) (kn : Option Bool) (kt : Bool) (ys : List (List C)) (n : Int) (q : List UInt8) (t : Int) (nl11 : Option Bool) (t11 : Bool) (xs11 : List (List C)) (i13 : Int) (ih1 : Int) (ih1_1 : Int) (sh1 : List UInt8) : Ex × Fr × Hp := (Ex.exit 0, [(2, V.c (C.str q)), (3, V.c (C.int IntKind.i64 t)), (4, V.ptr 0 0 0 0), (9, V.ptr 1 0 0 0), (11, V.c (C.sl 1 nl11 t11 xs11)), (12, V.c (C.int IntKind.i64 n)), (13, V.c (C.int IntKind.i64 i13)), (44, V.c (C.bool false))], [O.box [V.c (C.sl 2 nl tt xs), V.c (C.sl 3 kn kt ys)], O.box [V.c (C.int IntKind.i64 ih1), V.c (C.int IntKind.i64 ih1_1), V.c (C.str sh1)]])
theorem t24_0 (nl : Option Bool) (tt : Bool) (xs : List (List C)) (kn : Option Bool) (kt : Bool) (ys : List (List C)) (n : Int) (q : List UInt8) (t : Int) (nl11 : Option Bool) (t11 : Bool) (xs11 : List (List C)) (i13 : Int) (ih1 : Int) (ih1_1 : Int) (sh1 : List UInt8) : p24.lts b24_0 (s24_0 nl tt xs kn kt ys n q t nl11 t11 xs11 i13 ih1 ih1_1 sh1) = (Tr.br (decide (i13 < (↑xs11.length : Int))) (Tr.chk (decide (0 ≤ i13)) (Tr.chk true (Tr.chk (decide (i13.toNat < xs11.length)) (Tr.chk (shOk [Sk.int IntKind.i64] (xs11.getD i13.toNat [])) (Tr.chk (isL ys) (Tr.chk (decide (1 ≤ ((xs11.getD i13.toNat []).headD C.pnil).i)) (Tr.chk (decide (((xs11.getD i13.toNat []).headD C.pnil).i ≤ (↑ys.length : Int))) (Tr.chk (decide (ys.length < 4294967296)) (Tr.chk (fewE (decL ys)) (Tr.br ((valR2 (decL ys) q t ((xs11.getD i13.toNat []).headD C.pnil).i).k == ih1 && ((valR2 (decL ys) q t ((xs11.getD i13.toNat []).headD C.pnil).i).n == ih1_1 && ((valR2 (decL ys) q t ((xs11.getD i13.toNat []).headD C.pnil).i).s == sh1 && true))) (Tr.chk (decide (0 ≤ i13)) (Tr.chk true (Tr.chk (decide (i13.toNat < xs11.length)) (Tr.chk (shOk [Sk.int IntKind.i64] (xs11.getD i13.toNat [])) (Tr.leaf (R.s (s24_0 nl tt xs kn kt ys (((xs11.getD i13.toNat []).headD C.pnil).i) q t nl11 t11 xs11 (IntKind.i64.wrap (i13 + 1)) ih1 ih1_1 sh1))))))) (Tr.leaf (R.x (x24_0x0 nl tt xs kn kt ys n q t nl11 t11 xs11 i13 ih1 ih1_1 sh1))))))))))))) (Tr.leaf (R.x (x24_0x0 nl tt xs kn kt ys n q t nl11 t11 xs11 i13 ih1 ih1_1 sh1)))) := by kernel_rfl
theorem k24_0x0 (nl : Option Bool) (tt : Bool) (xs : List (List C)) (kn : Option Bool) (kt : Bool) (ys : List (List C)) (n : Int) (q : List UInt8) (t : Int) (nl11 : Option Bool) (t11 : Bool) (xs11 : List (List C)) (i13 : Int) (ih1 : Int) (ih1_1 : Int) (sh1 : List UInt8) : p24.fkx 0 (x24_0x0 nl tt xs kn kt ys n q t nl11 t11 xs11 i13 ih1 ih1_1 sh1) = (Tr.leaf (R.out [V.c (C.int IntKind.i64 n)] [])) := by kernel_rfl
theorem t24 (nl : Option Bool) (tt : Bool) (xs : List (List C)) (kn : Option Bool) (kt : Bool) (ys : List (List C)) (n : Int) (q : List UInt8) (t : Int) : p24.ft ([V.agg [V.c (C.sl 2 nl tt xs), V.c (C.sl 3 kn kt ys)], V.i n, V.c (C.str q), V.i t]) ([]) = (Tr.chk (Gr.isRepo xs) (Tr.chk (Gr.smallB (Gr.toRepo xs)) (Tr.chk (isL ys) (Tr.chk (decide (ys.length < 4294967296)) (Tr.chk (fewE (decL ys)) (Tr.br (!(valueR (Gr.toRepo xs) (decL ys) n q t).k != 0) (Tr.leaf (R.out [V.c (C.int IntKind.i64 0)] [])) (Tr.chk (Gr.isRepo xs) (Tr.chk (Gr.smallB (Gr.toRepo xs)) (Tr.ls 0 (s24_0 nl tt xs kn kt ys n q t (none) false (ints (Gr.firstR (Gr.toRepo xs) n)) (0) ((valueR (Gr.toRepo xs) (decL ys) n q t).k) ((valueR (Gr.toRepo xs) (decL ys) n q t).n) ((valueR (Gr.toRepo xs) (decL ys) n q t).s))))))))))) := by kernel_rfl
noncomputable abbrev p27 : Par := par E sh (ctOf [(61, s61), (62, s62), (64, Gr.s64)]) 27 5 0
abbrev s27_0 (nl : Option Bool) (tt : Bool) (xs : List (List C)) (kn : Option Bool) (kt : Bool) (ys : List (List C)) (q : List UInt8) (t : Int) (k : Int) (m : Int) (s : List UInt8) (nl11 : Option Bool) (t11 : Bool) (xs11 : List (List C)) (n12 : Nat) (i13 : Int) (ys2 : List (List C)) : Fr × Hp := ([(2, V.c (C.str q)), (3, V.c (C.int IntKind.i64 t)), (5, V.ptr 0 0 0 0), (9, V.ptr 1 0 0 0), (11, V.c (C.sl 1 nl11 t11 xs11)), (12, V.buf 2 0 0 n12), (13, V.c (C.int IntKind.i64 i13))], [O.box [V.c (C.sl 2 nl tt xs), V.c (C.sl 3 kn kt ys)], O.box [V.c (C.int IntKind.i64 k), V.c (C.int IntKind.i64 m), V.c (C.str s)], O.mem 1 0 ys2])
noncomputable abbrev b27_0 : Code := loopAt (codeOf p27.E p27.g) 0
abbrev x27_0x0 (nl : Option Bool) (tt : Bool) (xs : List (List C)) (kn : Option Bool) (kt : Bool) (ys : List (List C)) (q : List UInt8) (t : Int) (k : Int) (m : Int) (s : List UInt8) (nl11 : Option Bool) (t11 : Bool) (xs11 : List (List C)) (n12 : Nat) (i13 : Int) (ys2 : List (List C)) : Ex × Fr × Hp := (Ex.exit 0, [(2, V.c (C.str q)), (3, V.c (C.int IntKind.i64 t)), (5, V.ptr 0 0 0 0), (9, V.ptr 1 0 0 0), (11, V.c (C.sl 1 nl11 t11 xs11)), (12, V.buf 2 0 0 n12), (13, V.c (C.int IntKind.i64 i13)), (30, V.c (C.bool false))], [O.box [V.c (C.sl 2 nl tt xs), V.c (C.sl 3 kn kt ys)], O.box [V.c (C.int IntKind.i64 k), V.c (C.int IntKind.i64 m), V.c (C.str s)], O.mem 1 0 ys2])
theorem t27_0 (nl : Option Bool) (tt : Bool) (xs : List (List C)) (kn : Option Bool) (kt : Bool) (ys : List (List C)) (q : List UInt8) (t : Int) (k : Int) (m : Int) (s : List UInt8) (nl11 : Option Bool) (t11 : Bool) (xs11 : List (List C)) (n12 : Nat) (i13 : Int) (ys2 : List (List C)) : p27.lts b27_0 (s27_0 nl tt xs kn kt ys q t k m s nl11 t11 xs11 n12 i13 ys2) = (Tr.br (decide (i13 < (↑xs11.length : Int))) (Tr.chk (decide (0 ≤ i13)) (Tr.chk true (Tr.chk (decide (i13.toNat < xs11.length)) (Tr.chk (shOk [Sk.int IntKind.i64] (xs11.getD i13.toNat [])) (Tr.chk (isL ys) (Tr.chk (decide (1 ≤ ((xs11.getD i13.toNat []).headD C.pnil).i)) (Tr.chk (decide (((xs11.getD i13.toNat []).headD C.pnil).i ≤ (↑ys.length : Int))) (Tr.chk (decide (ys.length < 4294967296)) (Tr.chk (fewE (decL ys)) (Tr.br ((valR2 (decL ys) q t ((xs11.getD i13.toNat []).headD C.pnil).i).k == k && ((valR2 (decL ys) q t ((xs11.getD i13.toNat []).headD C.pnil).i).n == m && ((valR2 (decL ys) q t ((xs11.getD i13.toNat []).headD C.pnil).i).s == s && true))) (Tr.chk (decide (0 ≤ i13)) (Tr.chk true (Tr.chk (decide (i13.toNat < xs11.length)) (Tr.chk (shOk [Sk.int IntKind.i64] (xs11.getD i13.toNat [])) (Tr.chk true (Tr.chk true (Tr.chk (decide (n12 + 1 < 4294967296)) (Tr.chk true (Tr.leaf (R.s (s27_0 nl tt xs kn kt ys q t k m s nl11 t11 xs11 (n12 + 1) (IntKind.i64.wrap (i13 + 1)) (List.take n12 ys2 ++ [[(Sk.int IntKind.i64).mk ((xs11.getD i13.toNat []).headD C.pnil)]])))))))))))) (Tr.leaf (R.s (s27_0 nl tt xs kn kt ys q t k m s nl11 t11 xs11 n12 (IntKind.i64.wrap (i13 + 1)) ys2))))))))))))) (Tr.leaf (R.x (x27_0x0 nl tt xs kn kt ys q t k m s nl11 t11 xs11 n12 i13 ys2)))) := by kernel_rfl
theorem k27_0x0 (nl : Option Bool) (tt : Bool) (xs : List (List C)) (kn : Option Bool) (kt : Bool) (ys : List (List C)) (q : List UInt8) (t : Int) (k : Int) (m : Int) (s : List UInt8) (nl11 : Option Bool) (t11 : Bool) (xs11 : List (List C)) (n12 : Nat) (i13 : Int) (ys2 : List (List C)) : p27.fkx 0 (x27_0x0 nl tt xs kn kt ys q t k m s nl11 t11 xs11 n12 i13 ys2) = (Tr.leaf (R.out [V.c (C.sl 1 none false (List.take n12 ys2))] [])) := by kernel_rfl
theorem t27 (nl : Option Bool) (tt : Bool) (xs : List (List C)) (kn : Option Bool) (kt : Bool) (ys : List (List C)) (n : Int) (q : List UInt8) (t : Int) (k : Int) (m : Int) (s : List UInt8) : p27.ft ([V.agg [V.c (C.sl 2 nl tt xs), V.c (C.sl 3 kn kt ys)], V.i n, V.c (C.str q), V.i t, V.agg [V.i k, V.i m, V.c (C.str s)]]) ([]) = (Tr.chk (Gr.isRepo xs) (Tr.chk (Gr.smallB (Gr.toRepo xs)) (Tr.chk (isL ys) (Tr.chk (decide (ys.length < 4294967296)) (Tr.br (!isP (Gr.toRepo xs) (decL ys) n) (Tr.leaf (R.out [V.c (C.sl 1 none false [])] [])) (Tr.br (k == 0) (Tr.leaf (R.out [V.c (C.sl 1 none false [])] [])) (Tr.chk (Gr.isRepo xs) (Tr.chk (Gr.smallB (Gr.toRepo xs)) (Tr.ls 0 (s27_0 nl tt xs kn kt ys q t k m s (none) false (ints (Gr.firstR (Gr.toRepo xs) n)) (0) (0) ([]))))))))))) := by kernel_rfl
noncomputable abbrev p63 : Par := par E sh (ctOf []) 63 1 1
abbrev s63_0 (len : Nat) (xs : List (List C)) (i2 : Int) (i3 : Int) : Fr × Hp := ([(0, V.buf 0 0 0 len), (2, V.c (C.int IntKind.i64 i2)), (3, V.c (C.int IntKind.i64 i3))], [O.mem 4 0 xs])
noncomputable abbrev b63_0 : Code := loopAt (codeOf p63.E p63.g) 0
abbrev x63_0x0 (len : Nat) (xs : List (List C)) (i2 : Int) (i3 : Int) : Ex × Fr × Hp := (Ex.exit 0, [(0, V.buf 0 0 0 len), (2, V.c (C.int IntKind.i64 i2)), (3, V.c (C.int IntKind.i64 i3)), (9, V.c (C.bool false))], [O.mem 4 0 xs])
theorem t63_0 (len : Nat) (xs : List (List C)) (i2 : Int) (i3 : Int) : p63.lts b63_0 (s63_0 len xs i2 i3) = (Tr.br (decide (i2 < i3)) (Tr.chk (decide (0 ≤ i3)) (Tr.chk (decide (i3 < (↑len : Int))) (Tr.chk true (Tr.chk true (Tr.chk true (Tr.chk (decide (0 + i3.toNat < xs.length)) (Tr.chk (decide (4 ≤ (xs.getD (0 + i3.toNat) []).length)) (Tr.chk (shOk [Sk.int IntKind.i64, Sk.int IntKind.i64, Sk.int IntKind.i64, Sk.str] (List.take 4 (xs.getD (0 + i3.toNat) []))) (Tr.chk (decide (0 ≤ i2)) (Tr.chk (decide (i2 < (↑len : Int))) (Tr.chk true (Tr.chk true (Tr.chk true (Tr.chk (decide (0 + i2.toNat < xs.length)) (Tr.chk (decide (4 ≤ (xs.getD (0 + i2.toNat) []).length)) (Tr.chk (shOk [Sk.int IntKind.i64, Sk.int IntKind.i64, Sk.int IntKind.i64, Sk.str] (List.take 4 (xs.getD (0 + i2.toNat) []))) (Tr.chk (decide (0 ≤ i2)) (Tr.chk (decide (i2 < (↑len : Int))) (Tr.chk true (Tr.chk true (Tr.chk true (Tr.chk (decide (0 + i2.toNat < xs.length)) (Tr.chk true (Tr.chk (decide ((xs.getD (0 + i2.toNat) []).length = 4)) (Tr.chk (decide (0 ≤ i3)) (Tr.chk (decide (i3 < (↑len : Int))) (Tr.chk true (Tr.chk true (Tr.chk true (Tr.chk (decide (0 + i3.toNat < (xs.set (0 + i2.toNat) [(Sk.int IntKind.i64).mk ((List.take 4 (xs.getD (0 + i3.toNat) [])).headD C.pnil), (Sk.int IntKind.i64).mk ((List.take 4 (xs.getD (0 + i3.toNat) [])).tail.headD C.pnil), (Sk.int IntKind.i64).mk ((List.take 4 (xs.getD (0 + i3.toNat) [])).tail.tail.headD C.pnil), Sk.str.mk ((List.take 4 (xs.getD (0 + i3.toNat) [])).tail.tail.tail.headD C.pnil)]).length)) (Tr.chk true (Tr.chk (decide (((xs.set (0 + i2.toNat) [(Sk.int IntKind.i64).mk ((List.take 4 (xs.getD (0 + i3.toNat) [])).headD C.pnil), (Sk.int IntKind.i64).mk ((List.take 4 (xs.getD (0 + i3.toNat) [])).tail.headD C.pnil), (Sk.int IntKind.i64).mk ((List.take 4 (xs.getD (0 + i3.toNat) [])).tail.tail.headD C.pnil), Sk.str.mk ((List.take 4 (xs.getD (0 + i3.toNat) [])).tail.tail.tail.headD C.pnil)]).getD (0 + i3.toNat) []).length = 4)) (Tr.leaf (R.s (s63_0 len ((xs.set (0 + i2.toNat) [(Sk.int IntKind.i64).mk ((List.take 4 (xs.getD (0 + i3.toNat) [])).headD C.pnil), (Sk.int IntKind.i64).mk ((List.take 4 (xs.getD (0 + i3.toNat) [])).tail.headD C.pnil), (Sk.int IntKind.i64).mk ((List.take 4 (xs.getD (0 + i3.toNat) [])).tail.tail.headD C.pnil), Sk.str.mk ((List.take 4 (xs.getD (0 + i3.toNat) [])).tail.tail.tail.headD C.pnil)]).set (0 + i3.toNat) [(Sk.int IntKind.i64).mk ((List.take 4 (xs.getD (0 + i2.toNat) [])).headD C.pnil), (Sk.int IntKind.i64).mk ((List.take 4 (xs.getD (0 + i2.toNat) [])).tail.headD C.pnil), (Sk.int IntKind.i64).mk ((List.take 4 (xs.getD (0 + i2.toNat) [])).tail.tail.headD C.pnil), Sk.str.mk ((List.take 4 (xs.getD (0 + i2.toNat) [])).tail.tail.tail.headD C.pnil)]) (IntKind.i64.wrap (i2 + 1)) (IntKind.i64.wrap (i3 - 1))))))))))))))))))))))))))))))))))))) (Tr.leaf (R.x (x63_0x0 len xs i2 i3)))) := by kernel_rfl
theorem k63_0x0 (len : Nat) (xs : List (List C)) (i2 : Int) (i3 : Int) : p63.fkx 0 (x63_0x0 len xs i2 i3) = (Tr.leaf (R.out [] [O.mem 4 0 xs])) := by kernel_rfl
theorem t63 (len : Nat) (xs : List (List C)) : p63.ft ([V.buf 0 0 0 len]) ([O.mem 4 0 xs]) = (Tr.chk true (Tr.ls 0 (s63_0 len xs (0) (IntKind.i64.wrap ((↑len : Int) - 1))))) := by kernel_rfl
noncomputable abbrev p20 : Par := par E sh (ctOf []) 20 2 0
abbrev s20_0 (nl : Option Bool) (tt : Bool) (xs : List (List C)) (nl2 : Option Bool) (t2 : Bool) (ys : List (List C)) (i5 : Int) : Fr × Hp := ([(0, V.c (C.sl 4 nl tt xs)), (1, V.c (C.sl 4 nl2 t2 ys)), (5, V.c (C.int IntKind.i64 i5))], [])
noncomputable abbrev b20_0 : Code := loopAt (codeOf p20.E p20.g) 0
abbrev x20_0x0 : Ex × Fr × Hp := (Ex.ret, [(4, V.c (C.bool false))], [])
abbrev x20_0x1 (nl : Option Bool) (tt : Bool) (xs : List (List C)) (nl2 : Option Bool) (t2 : Bool) (ys : List (List C)) (i5 : Int) : Ex × Fr × Hp := (Ex.exit 0, [(0, V.c (C.sl 4 nl tt xs)), (1, V.c (C.sl 4 nl2 t2 ys)), (5, V.c (C.int IntKind.i64 i5)), (14, V.c (C.bool false))], [])
theorem t20_0 (nl : Option Bool) (tt : Bool) (xs : List (List C)) (nl2 : Option Bool) (t2 : Bool) (ys : List (List C)) (i5 : Int) : p20.lts b20_0 (s20_0 nl tt xs nl2 t2 ys i5) = (Tr.br (decide (i5 < (↑xs.length : Int))) (Tr.chk (decide (0 ≤ i5)) (Tr.chk true (Tr.chk (decide (i5.toNat < xs.length)) (Tr.chk (shOk [Sk.int IntKind.i64, Sk.int IntKind.i64, Sk.int IntKind.i64, Sk.str] (xs.getD i5.toNat [])) (Tr.chk (decide (0 ≤ i5)) (Tr.chk true (Tr.chk (decide (i5.toNat < ys.length)) (Tr.chk (shOk [Sk.int IntKind.i64, Sk.int IntKind.i64, Sk.int IntKind.i64, Sk.str] (ys.getD i5.toNat [])) (Tr.br (!(((xs.getD i5.toNat []).headD C.pnil).i == ((ys.getD i5.toNat []).headD C.pnil).i && (((xs.getD i5.toNat []).tail.headD C.pnil).i == ((ys.getD i5.toNat []).tail.headD C.pnil).i && (((xs.getD i5.toNat []).tail.tail.headD C.pnil).i == ((ys.getD i5.toNat []).tail.tail.headD C.pnil).i && (((xs.getD i5.toNat []).tail.tail.tail.headD C.pnil).st == ((ys.getD i5.toNat []).tail.tail.tail.headD C.pnil).st && true))))) (Tr.leaf (R.x x20_0x0)) (Tr.leaf (R.s (s20_0 nl tt xs nl2 t2 ys (IntKind.i64.wrap (i5 + 1)))))))))))))) (Tr.leaf (R.x (x20_0x1 nl tt xs nl2 t2 ys i5)))) := by kernel_rfl
theorem k20_0x0 : p20.fkx 0 x20_0x0 = (Tr.leaf (R.out [V.c (C.bool false)] [])) := by kernel_rfl
theorem k20_0x1 (nl : Option Bool) (tt : Bool) (xs : List (List C)) (nl2 : Option Bool) (t2 : Bool) (ys : List (List C)) (i5 : Int) : p20.fkx 0 (x20_0x1 nl tt xs nl2 t2 ys i5) = (Tr.leaf (R.out [V.c (C.bool true)] [])) := by kernel_rfl
theorem t20 (nl : Option Bool) (tt : Bool) (xs : List (List C)) (nl2 : Option Bool) (t2 : Bool) (ys : List (List C)) : p20.ft ([V.c (C.sl 4 nl tt xs), V.c (C.sl 4 nl2 t2 ys)]) ([]) = (Tr.br ((↑xs.length : Int) != (↑ys.length : Int)) (Tr.leaf (R.out [V.c (C.bool false)] [])) (Tr.ls 0 (s20_0 nl tt xs nl2 t2 ys (0)))) := by kernel_rfl
noncomputable abbrev p58 : Par := par E sh (ctOf []) 58 2 0
theorem t58 (c : Int) (k : Int) (m : Int) (s : List UInt8) (n : Int) : p58.ft ([V.agg [V.i c, V.i k, V.i m, V.c (C.str s)], V.i n]) ([]) = (Tr.br (decide (c ≤ n)) (Tr.leaf (R.out [V.c (C.int IntKind.i64 (-1))] [])) (Tr.leaf (R.out [V.c (C.int IntKind.i64 1)] []))) := by kernel_rfl
noncomputable abbrev p57 : Par := par E sh (ctOf [(58, s58)]) 57 3 0
abbrev s57_0 (nl : Option Bool) (tt : Bool) (xs : List (List C)) (n : Int) (i8 : Int) (i9 : Int) (i10 : Int) : Fr × Hp := ([(0, V.c (C.sl 4 nl tt xs)), (1, V.c (C.int IntKind.i64 n)), (2, V.fn 58 []), (8, V.c (C.int IntKind.i64 i8)), (9, V.c (C.int IntKind.i64 i9)), (10, V.c (C.int IntKind.i64 i10))], [])
noncomputable abbrev b57_0 : Code := loopAt (codeOf p57.E p57.g) 0
abbrev x57_0x0 (nl : Option Bool) (tt : Bool) (xs : List (List C)) (n : Int) (i8 : Int) (i9 : Int) (i10 : Int) : Ex × Fr × Hp := (Ex.exit 0, [(0, V.c (C.sl 4 nl tt xs)), (1, V.c (C.int IntKind.i64 n)), (2, V.fn 58 []), (8, V.c (C.int IntKind.i64 i8)), (9, V.c (C.int IntKind.i64 i9)), (10, V.c (C.int IntKind.i64 i10)), (17, V.c (C.bool false))], [])
theorem t57_0 (nl : Option Bool) (tt : Bool) (xs : List (List C)) (n : Int) (i8 : Int) (i9 : Int) (i10 : Int) : p57.lts b57_0 (s57_0 nl tt xs n i8 i9 i10) = (Tr.br (decide (i9 < i10)) (Tr.chk (decide (0 ≤ IntKind.i64.wrap (IntKind.u64.wrap (IntKind.i64.wrap (i9 + i10)) / 2 ^ min (Int.toNat 1) IntKind.u64.bits))) (Tr.chk true (Tr.chk (decide ((IntKind.i64.wrap (IntKind.u64.wrap (IntKind.i64.wrap (i9 + i10)) / 2 ^ min (Int.toNat 1) IntKind.u64.bits)).toNat < xs.length)) (Tr.chk (shOk [Sk.int IntKind.i64, Sk.int IntKind.i64, Sk.int IntKind.i64, Sk.str] (xs.getD (IntKind.i64.wrap (IntKind.u64.wrap (IntKind.i64.wrap (i9 + i10)) / 2 ^ min (Int.toNat 1) IntKind.u64.bits)).toNat [])) (Tr.br (decide ((if ((xs.getD (IntKind.i64.wrap (IntKind.u64.wrap (IntKind.i64.wrap (i9 + i10)) / 2 ^ min (Int.toNat 1) IntKind.u64.bits)).toNat []).headD C.pnil).i ≤ n then -1 else 1) < 0)) (Tr.leaf (R.s (s57_0 nl tt xs n i8 (IntKind.i64.wrap (IntKind.i64.wrap (IntKind.u64.wrap (IntKind.i64.wrap (i9 + i10)) / 2 ^ min (Int.toNat 1) IntKind.u64.bits) + 1)) i10))) (Tr.leaf (R.s (s57_0 nl tt xs n i8 i9 (IntKind.i64.wrap (IntKind.u64.wrap (IntKind.i64.wrap (i9 + i10)) / 2 ^ min (Int.toNat 1) IntKind.u64.bits)))))))))) (Tr.leaf (R.x (x57_0x0 nl tt xs n i8 i9 i10)))) := by kernel_rfl
theorem k57_0x0 (nl : Option Bool) (tt : Bool) (xs : List (List C)) (n : Int) (i8 : Int) (i9 : Int) (i10 : Int) : p57.fkx 0 (x57_0x0 nl tt xs n i8 i9 i10) = (Tr.br (decide (i9 < i8)) (Tr.chk (decide (0 ≤ i9)) (Tr.chk true (Tr.chk (decide (i9.toNat < xs.length)) (Tr.chk (shOk [Sk.int IntKind.i64, Sk.int IntKind.i64, Sk.int IntKind.i64, Sk.str] (xs.getD i9.toNat [])) (Tr.leaf (R.out [V.c (C.int IntKind.i64 i9), V.c (C.bool ((if ((xs.getD i9.toNat []).headD C.pnil).i ≤ n then -1 else 1) == 0))] [])))))) (Tr.leaf (R.out [V.c (C.int IntKind.i64 i9), V.c (C.bool false)] []))) := by kernel_rfl
theorem t57 (nl : Option Bool) (tt : Bool) (xs : List (List C)) (n : Int) : p57.ft ([V.c (C.sl 4 nl tt xs), V.i n, V.fn 58 []]) ([]) = (Tr.ls 0 (s57_0 nl tt xs n ((↑xs.length : Int)) (0) ((↑xs.length : Int)))) := by kernel_rfl
noncomputable abbrev p15 : Par := par E sh (ctOf [(57, s57)]) 15 2 0
abbrev s15_0 (nl : Option Bool) (tt : Bool) (xs : List (List C)) (n : Int) (i9 : Int) (i10 : Int) : Fr × Hp := ([(0, V.c (C.sl 4 nl tt xs)), (1, V.c (C.int IntKind.i64 n)), (9, V.c (C.int IntKind.i64 i9)), (10, V.c (C.int IntKind.i64 i10))], [])
noncomputable abbrev b15_0 : Code := loopAt (codeOf p15.E p15.g) 0
abbrev x15_0x0 : Ex × Fr × Hp := (Ex.ret, [(4, V.c (C.int IntKind.i64 (-1)))], [])
abbrev x15_0x1 (nl : Option Bool) (tt : Bool) (xs : List (List C)) (n : Int) (i9 : Int) (i10 : Int) : Ex × Fr × Hp := (Ex.exit 0, [(0, V.c (C.sl 4 nl tt xs)), (1, V.c (C.int IntKind.i64 n)), (9, V.c (C.int IntKind.i64 i9)), (10, V.c (C.int IntKind.i64 i10)), (11, V.c (C.bool false))], [])
theorem t15_0 (nl : Option Bool) (tt : Bool) (xs : List (List C)) (n : Int) (i9 : Int) (i10 : Int) : p15.lts b15_0 (s15_0 nl tt xs n i9 i10) = (Tr.br (decide (i10 < i9)) (Tr.br (decide (0 < i10)) (Tr.chk (decide (0 ≤ IntKind.i64.wrap (i10 - 1))) (Tr.chk true (Tr.chk (decide ((IntKind.i64.wrap (i10 - 1)).toNat < xs.length)) (Tr.chk (shOk [Sk.int IntKind.i64, Sk.int IntKind.i64, Sk.int IntKind.i64, Sk.str] (xs.getD (IntKind.i64.wrap (i10 - 1)).toNat [])) (Tr.chk (decide (0 ≤ i10)) (Tr.chk true (Tr.chk (decide (i10.toNat < xs.length)) (Tr.chk (shOk [Sk.int IntKind.i64, Sk.int IntKind.i64, Sk.int IntKind.i64, Sk.str] (xs.getD i10.toNat [])) (Tr.br (decide (((xs.getD i10.toNat []).headD C.pnil).i ≤ ((xs.getD (IntKind.i64.wrap (i10 - 1)).toNat []).headD C.pnil).i)) (Tr.leaf (R.x x15_0x0)) (Tr.leaf (R.s (s15_0 nl tt xs n i9 (IntKind.i64.wrap (i10 + 1)))))))))))))) (Tr.leaf (R.s (s15_0 nl tt xs n i9 (IntKind.i64.wrap (i10 + 1)))))) (Tr.leaf (R.x (x15_0x1 nl tt xs n i9 i10)))) := by kernel_rfl
theorem k15_0x0 : p15.fkx 0 x15_0x0 = (Tr.leaf (R.out [V.c (C.int IntKind.i64 (-1))] [])) := by kernel_rfl
theorem k15_0x1 (nl : Option Bool) (tt : Bool) (xs : List (List C)) (n : Int) (i9 : Int) (i10 : Int) : p15.fkx 0 (x15_0x1 nl tt xs n i9 i10) = (Tr.chk (isRns xs) (Tr.chk (decide (xs.length < 4294967296)) (Tr.leaf (R.out [V.c (C.int IntKind.i64 (IntKind.i64.wrap ((↑(bsN (toRns xs) n xs.length 0 xs.length) : Int) - 1)))] [])))) := by kernel_rfl
theorem t15 (nl : Option Bool) (tt : Bool) (xs : List (List C)) (n : Int) : p15.ft ([V.c (C.sl 4 nl tt xs), V.i n]) ([]) = (Tr.ls 0 (s15_0 nl tt xs n ((↑xs.length : Int)) (0))) := by kernel_rfl
noncomputable abbrev p16 : Par := par E sh (ctOf []) 16 2 0
abbrev s16_0 (nl : Option Bool) (tt : Bool) (xs : List (List C)) (n : Int) (i5 : Int) (i6 : Int) : Fr × Hp := ([(0, V.c (C.sl 4 nl tt xs)), (1, V.c (C.int IntKind.i64 n)), (5, V.c (C.int IntKind.i64 i5)), (6, V.c (C.int IntKind.i64 i6))], [])
noncomputable abbrev b16_0 : Code := loopAt (codeOf p16.E p16.g) 0
abbrev x16_0x0 : Ex × Fr × Hp := (Ex.ret, [(4, V.c (C.int IntKind.i64 (-1)))], [])
abbrev x16_0x1 (nl : Option Bool) (tt : Bool) (xs : List (List C)) (n : Int) (i5 : Int) (i6 : Int) : Ex × Fr × Hp := (Ex.exit 0, [(0, V.c (C.sl 4 nl tt xs)), (1, V.c (C.int IntKind.i64 n)), (5, V.c (C.int IntKind.i64 i5)), (6, V.c (C.int IntKind.i64 i6)), (10, V.c (C.bool false))], [])
theorem t16_0 (nl : Option Bool) (tt : Bool) (xs : List (List C)) (n : Int) (i5 : Int) (i6 : Int) : p16.lts b16_0 (s16_0 nl tt xs n i5 i6) = (Tr.br (decide (i6 < (↑xs.length : Int))) (Tr.br (decide (0 < i6)) (Tr.chk (decide (0 ≤ IntKind.i64.wrap (i6 - 1))) (Tr.chk true (Tr.chk (decide ((IntKind.i64.wrap (i6 - 1)).toNat < xs.length)) (Tr.chk (shOk [Sk.int IntKind.i64, Sk.int IntKind.i64, Sk.int IntKind.i64, Sk.str] (xs.getD (IntKind.i64.wrap (i6 - 1)).toNat [])) (Tr.chk (decide (0 ≤ i6)) (Tr.chk true (Tr.chk (decide (i6.toNat < xs.length)) (Tr.chk (shOk [Sk.int IntKind.i64, Sk.int IntKind.i64, Sk.int IntKind.i64, Sk.str] (xs.getD i6.toNat [])) (Tr.br (decide (((xs.getD i6.toNat []).headD C.pnil).i ≤ ((xs.getD (IntKind.i64.wrap (i6 - 1)).toNat []).headD C.pnil).i)) (Tr.leaf (R.x x16_0x0)) (Tr.chk (decide (0 ≤ i6)) (Tr.chk true (Tr.chk (decide (i6.toNat < xs.length)) (Tr.chk (shOk [Sk.int IntKind.i64, Sk.int IntKind.i64, Sk.int IntKind.i64, Sk.str] (xs.getD i6.toNat [])) (Tr.br (decide (((xs.getD i6.toNat []).headD C.pnil).i ≤ n)) (Tr.leaf (R.s (s16_0 nl tt xs n i6 (IntKind.i64.wrap (i6 + 1))))) (Tr.leaf (R.s (s16_0 nl tt xs n i5 (IntKind.i64.wrap (i6 + 1))))))))))))))))))) (Tr.chk (decide (0 ≤ i6)) (Tr.chk true (Tr.chk (decide (i6.toNat < xs.length)) (Tr.chk (shOk [Sk.int IntKind.i64, Sk.int IntKind.i64, Sk.int IntKind.i64, Sk.str] (xs.getD i6.toNat [])) (Tr.br (decide (((xs.getD i6.toNat []).headD C.pnil).i ≤ n)) (Tr.leaf (R.s (s16_0 nl tt xs n i6 (IntKind.i64.wrap (i6 + 1))))) (Tr.leaf (R.s (s16_0 nl tt xs n i5 (IntKind.i64.wrap (i6 + 1))))))))))) (Tr.leaf (R.x (x16_0x1 nl tt xs n i5 i6)))) := by kernel_rfl
theorem k16_0x0 : p16.fkx 0 x16_0x0 = (Tr.leaf (R.out [V.c (C.int IntKind.i64 (-1))] [])) := by kernel_rfl
theorem k16_0x1 (nl : Option Bool) (tt : Bool) (xs : List (List C)) (n : Int) (i5 : Int) (i6 : Int) : p16.fkx 0 (x16_0x1 nl tt xs n i5 i6) = (Tr.leaf (R.out [V.c (C.int IntKind.i64 i5)] [])) := by kernel_rfl
theorem t16 (nl : Option Bool) (tt : Bool) (xs : List (List C)) (n : Int) : p16.ft ([V.c (C.sl 4 nl tt xs), V.i n]) ([]) = (Tr.ls 0 (s16_0 nl tt xs n (-1) (0))) := by kernel_rfl
variable (dd : Nat)
noncomputable abbrev p17 : Par := par E sh (ctOf [(59, s59 dd)]) 17 1 0
abbrev s17_0 (nl : Option Bool) (tt : Bool) (xs : List (List C)) (kn : Option Bool) (kt : Bool) (ys : List (List C)) (i3 : Int) (i4 : Int) : Fr × Hp := ([(1, V.ptr 0 0 0 0), (3, V.c (C.int IntKind.i64 i3)), (4, V.c (C.int IntKind.i64 i4))], [O.box [V.c (C.sl 2 nl tt xs), V.c (C.sl 3 kn kt ys)]])
noncomputable abbrev b17_0 : Code := loopAt (codeOf E (17)) 0
abbrev x17_0x0 (nl : Option Bool) (tt : Bool) (xs : List (List C)) (kn : Option Bool) (kt : Bool) (ys : List (List C)) (i3 : Int) (i4 : Int) : Ex × Fr × Hp := (Ex.exit 0, [(1, V.ptr 0 0 0 0), (3, V.c (C.int IntKind.i64 i3)), (4, V.c (C.int IntKind.i64 i4)), (24, V.c (C.bool false))], [O.box [V.c (C.sl 2 nl tt xs), V.c (C.sl 3 kn kt ys)]])
abbrev s17_1 (nl : Option Bool) (tt : Bool) (xs : List (List C)) (kn : Option Bool) (kt : Bool) (ys : List (List C)) (i3 : Int) (i5 : Int) : Fr × Hp := ([(1, V.ptr 0 0 0 0), (3, V.c (C.int IntKind.i64 i3)), (5, V.c (C.int IntKind.i64 i5))], [O.box [V.c (C.sl 2 nl tt xs), V.c (C.sl 3 kn kt ys)]])
noncomputable abbrev b17_1 : Code := loopAt (codeOf E (17)) 1
abbrev x17_1x0 (nl : Option Bool) (tt : Bool) (xs : List (List C)) (kn : Option Bool) (kt : Bool) (ys : List (List C)) : Ex × Fr × Hp := (Ex.ret, [(2, V.c (C.bool false))], [O.box [V.c (C.sl 2 nl tt xs), V.c (C.sl 3 kn kt ys)]])
abbrev x17_1x1 (nl : Option Bool) (tt : Bool) (xs : List (List C)) (kn : Option Bool) (kt : Bool) (ys : List (List C)) (i3 : Int) (i5 : Int) : Ex × Fr × Hp := (Ex.exit 2, [(1, V.ptr 0 0 0 0), (3, V.c (C.int IntKind.i64 i3)), (5, V.c (C.int IntKind.i64 i5)), (38, V.c (C.bool false))], [O.box [V.c (C.sl 2 nl tt xs), V.c (C.sl 3 kn kt ys)]])
theorem t17_0 (nl : Option Bool) (tt : Bool) (xs : List (List C)) (kn : Option Bool) (kt : Bool) (ys : List (List C)) (i3 : Int) (i4 : Int) : (p17 dd).lts b17_0 (s17_0 nl tt xs kn kt ys i3 i4) = (Tr.br (decide (i4 < (↑ys.length : Int))) (Tr.br (decide (0 < i3)) (Tr.chk (decide (0 ≤ i4)) (Tr.chk true (Tr.chk (decide (i4.toNat < ys.length)) (Tr.chk (shOk [Sk.str, Sk.sl 5, Sk.sl 3] (ys.getD i4.toNat [])) (Tr.chk (isRows ((ys.getD i4.toNat []).tail.headD C.pnil).xs) (Tr.chk (isL ((ys.getD i4.toNat []).tail.tail.headD C.pnil).xs) (Tr.chk (decide (depL (decL ((ys.getD i4.toNat []).tail.tail.headD C.pnil).xs) < dd)) (Tr.chk (decide (0 ≤ i3)) (Tr.chk (decide (i3 ≤ 1000)) (Tr.chk true (Tr.chk true (Tr.chk (lensT (Nd.node ((ys.getD i4.toNat []).headD C.pnil).st (toRows ((ys.getD i4.toNat []).tail.headD C.pnil).xs) (decL ((ys.getD i4.toNat []).tail.tail.headD C.pnil).xs))) (Tr.leaf (R.s (s17_0 nl tt xs kn kt ys (leftT (Nd.node ((ys.getD i4.toNat []).headD C.pnil).st (toRows ((ys.getD i4.toNat []).tail.headD C.pnil).xs) (decL ((ys.getD i4.toNat []).tail.tail.headD C.pnil).xs)) i3 60) (IntKind.i64.wrap (i4 + 1))))))))))))))))) (Tr.leaf (R.x (x17_0x0 nl tt xs kn kt ys i3 i4)))) (Tr.leaf (R.x (x17_0x0 nl tt xs kn kt ys i3 i4)))) := by kernel_rfl
theorem t17_1 (nl : Option Bool) (tt : Bool) (xs : List (List C)) (kn : Option Bool) (kt : Bool) (ys : List (List C)) (i3 : Int) (i5 : Int) : (p17 dd).lts b17_1 (s17_1 nl tt xs kn kt ys i3 i5) = (Tr.br (decide (i5 < (↑xs.length : Int))) (Tr.chk (decide (0 ≤ i5)) (Tr.chk true (Tr.chk (decide (i5.toNat < xs.length)) (Tr.chk (shOk [Sk.sl 1, Sk.int IntKind.i64] (xs.getD i5.toNat [])) (Tr.br (decide (5 < (↑((xs.getD i5.toNat []).headD C.pnil).xs.length : Int))) (Tr.leaf (R.x (x17_1x0 nl tt xs kn kt ys))) (Tr.leaf (R.s (s17_1 nl tt xs kn kt ys i3 (IntKind.i64.wrap (i5 + 1)))))))))) (Tr.leaf (R.x (x17_1x1 nl tt xs kn kt ys i3 i5)))) := by kernel_rfl
theorem k17_1x0 (dd : Nat) (nl : Option Bool) (tt : Bool) (xs : List (List C)) (kn : Option Bool) (kt : Bool) (ys : List (List C)) : (p17 dd).fkx 1 (x17_1x0 nl tt xs kn kt ys) = (Tr.leaf (R.out [V.c (C.bool false)] [])) := by kernel_rfl
theorem k17_1x1 (dd : Nat) (nl : Option Bool) (tt : Bool) (xs : List (List C)) (kn : Option Bool) (kt : Bool) (ys : List (List C)) (i3 : Int) (i5 : Int) : (p17 dd).fkx 1 (x17_1x1 nl tt xs kn kt ys i3 i5) = (Tr.leaf (R.out [V.c (C.bool (decide (0 < i3)))] [])) := by kernel_rfl
theorem k17_0x0 (dd : Nat) (nl : Option Bool) (tt : Bool) (xs : List (List C)) (kn : Option Bool) (kt : Bool) (ys : List (List C)) (i3 : Int) (i4 : Int) : (p17 dd).fkx 0 (x17_0x0 nl tt xs kn kt ys i3 i4) = (Tr.ls 1 (s17_1 nl tt xs kn kt ys i3 (0))) := by kernel_rfl
theorem t17 (nl : Option Bool) (tt : Bool) (xs : List (List C)) (kn : Option Bool) (kt : Bool) (ys : List (List C)) : (p17 dd).ft ([V.agg [V.c (C.sl 2 nl tt xs), V.c (C.sl 3 kn kt ys)]]) ([]) = (Tr.br (decide (30 < (↑xs.length : Int))) (Tr.leaf (R.out [V.c (C.bool false)] [])) (Tr.br (decide (30 < (↑ys.length : Int))) (Tr.leaf (R.out [V.c (C.bool false)] [])) (Tr.ls 0 (s17_0 nl tt xs kn kt ys (600) (0))))) := by kernel_rfl
end Go.Proofs.YtbilmkcdhodenaaDoor

end

/-
  Chapter 31 (search), trees, written by a program: Runs.
-/
section
namespace Go.Proofs.YtbilmkcdhodenaaDoor
open Go Go.Ev
set_option pp.deepTerms true
set_option pp.maxSteps 1000000
set_option pp.funBinderTypes true
set_option pp.coercions.types true
noncomputable abbrev p21 : Par := par E sh (ctOf [(60, s60), (63, s63)]) 21 4 0
abbrev s21_0 (nl : Option Bool) (tt : Bool) (xs : List (List C)) (kn : Option Bool) (kt : Bool) (ys : List (List C)) (n : Int) (q : List UInt8) (t : Int) (nl8 : Option Bool) (t8 : Bool) (xs8 : List (List C)) (ys0 : List (List C)) (nh1 : Nat) : Fr × Hp := ([(8, V.c (C.sl 4 nl8 t8 xs8)), (9, V.ptr 1 0 0 0), (17, V.fn 100 [V.ptr 2 0 0 0, V.ptr 3 0 0 0, V.ptr 4 0 0 0, V.ptr 5 0 0 0])], [O.mem 4 0 ys0, O.box [V.buf 0 0 0 nh1], O.box [V.c (C.sl 2 nl tt xs), V.c (C.sl 3 kn kt ys)], O.box [V.c (C.int IntKind.i64 n)], O.box [V.c (C.str q)], O.box [V.c (C.int IntKind.i64 t)]])
noncomputable abbrev b21_0 : Code := loopAt (codeOf p21.E p21.g) 0
abbrev g21_0 (nl8 : Option Bool) (t8 : Bool) (xs8 : List (List C)) (ys0 : List (List C)) (nh1 : Nat) : Fr × Hp := ([(8, V.c (C.sl 4 nl8 t8 xs8)), (9, V.ptr 1 0 0 0), (17, V.fn 100 [V.ptr 2 0 0 0, V.ptr 3 0 0 0, V.ptr 4 0 0 0, V.ptr 5 0 0 0])], [O.mem 4 0 ys0, O.box [V.buf 0 0 0 nh1], O.gone, O.gone, O.gone, O.gone])
noncomputable abbrev p21_0 : Par := p21.deep 6
abbrev x21_0n (nl8 : Option Bool) (t8 : Bool) (xs8 : List (List C)) (ys0 : List (List C)) (nh1 : Nat) : Ex × Fr × Hp := (Ex.nrm, [(8, V.c (C.sl 4 nl8 t8 xs8)), (9, V.ptr 1 0 0 0), (17, V.fn 100 [V.ptr 2 0 0 0, V.ptr 3 0 0 0, V.ptr 4 0 0 0, V.ptr 5 0 0 0])], [O.mem 4 0 ys0, O.box [V.buf 0 0 0 nh1], O.gone, O.gone, O.gone, O.gone])
theorem t21_0 (nl8 : Option Bool) (t8 : Bool) (xs8 : List (List C)) (ys0 : List (List C)) (nh1 : Nat) (c1 : Int) (k1 : Int) (m1 : Int) (s1 : List UInt8) : p21.rts b21_0 ([V.agg [V.i c1, V.i k1, V.i m1, V.c (C.str s1)]]) (g21_0 nl8 t8 xs8 ys0 nh1) = (Tr.chk true (Tr.br (decide (0 ≤ IntKind.i64.wrap ((↑nh1 : Int) - 1))) (Tr.chk (decide (0 ≤ IntKind.i64.wrap ((↑nh1 : Int) - 1))) (Tr.chk (decide (IntKind.i64.wrap ((↑nh1 : Int) - 1) < (↑nh1 : Int))) (Tr.chk true (Tr.chk true (Tr.chk true (Tr.chk (decide (0 + (IntKind.i64.wrap ((↑nh1 : Int) - 1)).toNat < ys0.length)) (Tr.chk (decide (0 + (1, 3, true).fst + 3 ≤ (ys0.getD (0 + (IntKind.i64.wrap ((↑nh1 : Int) - 1)).toNat) []).length)) (Tr.chk (shOk [Sk.int IntKind.i64, Sk.int IntKind.i64, Sk.str] (List.take 3 (List.drop (0 + (1, 3, true).fst) (ys0.getD (0 + (IntKind.i64.wrap ((↑nh1 : Int) - 1)).toNat) [])))) (Tr.br (((List.take 3 (List.drop (0 + (1, 3, true).fst) (ys0.getD (0 + (IntKind.i64.wrap ((↑nh1 : Int) - 1)).toNat) []))).headD C.pnil).i == k1 && (((List.take 3 (List.drop (0 + (1, 3, true).fst) (ys0.getD (0 + (IntKind.i64.wrap ((↑nh1 : Int) - 1)).toNat) []))).tail.headD C.pnil).i == m1 && (((List.take 3 (List.drop (0 + (1, 3, true).fst) (ys0.getD (0 + (IntKind.i64.wrap ((↑nh1 : Int) - 1)).toNat) []))).tail.tail.headD C.pnil).st == s1 && true))) (Tr.chk (decide (0 ≤ IntKind.i64.wrap ((↑nh1 : Int) - 1))) (Tr.chk (decide (IntKind.i64.wrap ((↑nh1 : Int) - 1) < (↑nh1 : Int))) (Tr.chk true (Tr.chk true (Tr.chk true (Tr.chk (decide (0 + (IntKind.i64.wrap ((↑nh1 : Int) - 1)).toNat < ys0.length)) (Tr.chk true (Tr.chk (decide ((ys0.getD (0 + (IntKind.i64.wrap ((↑nh1 : Int) - 1)).toNat) []).length = 4)) (Tr.leaf (R.s (g21_0 nl8 t8 xs8 (ys0.set (0 + (IntKind.i64.wrap ((↑nh1 : Int) - 1)).toNat) [C.int IntKind.i64 c1, C.int IntKind.i64 k1, C.int IntKind.i64 m1, C.str s1]) nh1))))))))))) (Tr.chk true (Tr.chk true (Tr.chk (decide (nh1 + 1 < 4294967296)) (Tr.chk true (Tr.leaf (R.s (g21_0 nl8 t8 xs8 (List.take nh1 ys0 ++ [[C.int IntKind.i64 c1, C.int IntKind.i64 k1, C.int IntKind.i64 m1, C.str s1]]) (nh1 + 1))))))))))))))))) (Tr.chk true (Tr.chk true (Tr.chk (decide (nh1 + 1 < 4294967296)) (Tr.chk true (Tr.leaf (R.s (g21_0 nl8 t8 xs8 (List.take nh1 ys0 ++ [[C.int IntKind.i64 c1, C.int IntKind.i64 k1, C.int IntKind.i64 m1, C.str s1]]) (nh1 + 1)))))))))) := by kernel_rfl
theorem k21_0n (nl8 : Option Bool) (t8 : Bool) (xs8 : List (List C)) (ys0 : List (List C)) (nh1 : Nat) : p21.fkx 0 (x21_0n nl8 t8 xs8 ys0 nh1) = (Tr.chk true (Tr.br (decide (0 ≤ IntKind.i64.wrap ((↑nh1 : Int) - 1))) (Tr.chk (decide (0 ≤ IntKind.i64.wrap ((↑nh1 : Int) - 1))) (Tr.chk (decide (IntKind.i64.wrap ((↑nh1 : Int) - 1) < (↑nh1 : Int))) (Tr.chk true (Tr.chk true (Tr.chk true (Tr.chk (decide (0 + (IntKind.i64.wrap ((↑nh1 : Int) - 1)).toNat < ys0.length)) (Tr.chk (decide (0 + (1, 3, true).fst + (0, 1, false).fst + 1 ≤ (ys0.getD (0 + (IntKind.i64.wrap ((↑nh1 : Int) - 1)).toNat) []).length)) (Tr.chk (shOk [Sk.int IntKind.i64] (List.take 1 (List.drop (0 + (1, 3, true).fst + (0, 1, false).fst) (ys0.getD (0 + (IntKind.i64.wrap ((↑nh1 : Int) - 1)).toNat) [])))) (Tr.br (((List.take 1 (List.drop (0 + (1, 3, true).fst + (0, 1, false).fst) (ys0.getD (0 + (IntKind.i64.wrap ((↑nh1 : Int) - 1)).toNat) []))).headD C.pnil).i == 0) (Tr.chk (decide (0 ≤ IntKind.i64.wrap ((↑nh1 : Int) - 1))) (Tr.chk true (Tr.chk (decide ((IntKind.i64.wrap ((↑nh1 : Int) - 1)).toNat ≤ nh1)) (Tr.chk true (Tr.chk true (Tr.chk (isRns ys0) (Tr.chk (decide ((IntKind.i64.wrap ((↑nh1 : Int) - 1)).toNat - 0 ≤ ys0.length)) (Tr.chk (decide ((IntKind.i64.wrap ((↑nh1 : Int) - 1)).toNat - 0 < 4294967296)) (Tr.leaf (R.out [V.c (C.sl 4 none false (List.take ((IntKind.i64.wrap ((↑nh1 : Int) - 1)).toNat - 0) (rns ((List.take ((IntKind.i64.wrap ((↑nh1 : Int) - 1)).toNat - 0) (toRns ys0)).reverse ++ List.drop ((IntKind.i64.wrap ((↑nh1 : Int) - 1)).toNat - 0) (toRns ys0)))))] [])))))))))) (Tr.chk (isRns ys0) (Tr.chk (decide (nh1 ≤ ys0.length)) (Tr.chk (decide (nh1 < 4294967296)) (Tr.leaf (R.out [V.c (C.sl 4 none false (List.take nh1 (rns ((List.take nh1 (toRns ys0)).reverse ++ List.drop nh1 (toRns ys0)))))] [])))))))))))))) (Tr.chk (isRns ys0) (Tr.chk (decide (nh1 ≤ ys0.length)) (Tr.chk (decide (nh1 < 4294967296)) (Tr.leaf (R.out [V.c (C.sl 4 none false (List.take nh1 (rns ((List.take nh1 (toRns ys0)).reverse ++ List.drop nh1 (toRns ys0)))))] []))))))) := by kernel_rfl
theorem t21 (nl : Option Bool) (tt : Bool) (xs : List (List C)) (kn : Option Bool) (kt : Bool) (ys : List (List C)) (n : Int) (q : List UInt8) (t : Int) : p21.ft ([V.agg [V.c (C.sl 2 nl tt xs), V.c (C.sl 3 kn kt ys)], V.i n, V.c (C.str q), V.i t]) ([]) = (Tr.rs 0 (s21_0 nl tt xs kn kt ys n q t (some true) true ([]) ([]) (0))) := by kernel_rfl
end Go.Proofs.YtbilmkcdhodenaaDoor

end

/-
  Chapter 31 (search): Same, Reverse, Halves, what is small.
-/
section
namespace Go.Proofs.YtbilmkcdhodenaaDoor
open Go Go.Ev

theorem en_take (r : Rn) : List.take 4 (en r) = en r := rfl
theorem en_take3 (r : Rn) : List.take 3 (List.drop 1 (en r)) = [.int .i64 r.v.k, .int .i64 r.v.n, .str r.v.s] := rfl
theorem rns_set (l : List Rn) (i : Nat) (x : Rn) : (rns l).set i (en x) = rns (l.set i x) := by simp [rns, List.map_set]
theorem rn_eqb (x y : Rn) : (x.c == y.c && (x.v.k == y.v.k && (x.v.n == y.v.n && (x.v.s == y.v.s && true)))) = decide (x = y) := by
  obtain ⟨a, b, c, d⟩ := x
  obtain ⟨a2, b2, c2, d2⟩ := y
  rw [Bool.eq_iff_iff]
  simp
/-! ## Same -/
theorem f20 (l m : List Rn) (nl : Option Bool) (tt : Bool) (nl2 : Option Bool) (t2 : Bool) (hl : l.length < 4294967296) : call E 20 [.c (.sl 4 nl tt (rns l)), .c (.sl 4 nl2 t2 (rns m))] [] = some ([V.b (decide (l = m))], []) := by
  have hct : (ctOf []).ok E := ctOf_nil
  refine call_of (E := E) (sh := sh) (ct := ctOf []) (na := 2) (m := 0) hct rfl rfl rfl rfl rfl rfl ?_
  rw [t20]
  simp only [rns_length, en_ok, en_ok', isRns_rns, toRns_rns, rns_take, rns_drop, rns_append, rns_snoc', en_c, en_k, en_n, en_s, en_len, en_take, en_take3, en_mk, rns_set, nd_ok, nd_lab, nd_rows, nd_kids, encL_length, isL_enc, decL_enc, wrap_hd, hd_pos, ld_br, ld_chk', ld_leaf, fd_br, fd_chk', fd_leaf, decide_true, decide_eq_true_eq, if_true, Int.toNat_natCast, Int.natCast_nonneg, Int.ofNat_lt, Int.ofNat_le, Bool.false_eq_true, if_false, bne_iff_ne, beq_iff_eq, ne_eq, not_true_eq_false, not_false_eq_true, Bool.not_eq_true', decide_eq_false_iff_not, reduceCtorEq, rows_length, pcs_length, er_ok, er_ok', ep_ok, ep_ok', dr_er, dp_ep, isRows_rows, isPcs_pcs, toRows_rows, toPcs_pcs, rows_take, rows_drop, pcs_take, pcs_drop, rows_append, pcs_append, ints_length, isInts_ints, toInts_ints, ei_i, ei_ok, mk_headD, ints_take, ints_drop, ints_append, ints_snoc, ints_snoc', List.take_length, Nat.zero_add, Nat.le_refl, er_a, er_b, er_k, er_n, er_s, er_v, ep_a, ep_b, ep_hk, ep_hn, ep_hs, ep_wk, ep_wn, ep_ws]
  by_cases h : l.length = m.length
  case neg =>
    rw [if_pos (by omega)]
    have : ¬ l = m := fun e => h (by rw [e])
    simp [this]
  rw [if_neg (by omega)]
  refine fd_post hct (by kernel_rfl) rfl (list_post (p := p20) hct (b := b20_0) l.length (fun k (_ : Unit) => s20_0 nl tt (rns l) nl2 t2 (rns m) k) (fun k _ => l.take k = m.take k) _ ?_ ?_ 0 (Nat.zero_le _) () (by simp))
  · rintro k _ hk hi
    have hk2 : k < m.length := by omega
    have hq := rn_eqb l[k] m[k]
    rw [t20_0]
    simp only [rns_length, en_ok, en_ok', isRns_rns, toRns_rns, rns_take, rns_drop, rns_append, rns_snoc', en_c, en_k, en_n, en_s, en_len, en_take, en_take3, en_mk, rns_set, nd_ok, nd_lab, nd_rows, nd_kids, encL_length, isL_enc, decL_enc, wrap_hd, hd_pos, ld_br, ld_chk', ld_leaf, fd_br, fd_chk', fd_leaf, decide_true, decide_eq_true_eq, if_true, Int.toNat_natCast, Int.natCast_nonneg, Int.ofNat_lt, Int.ofNat_le, Bool.false_eq_true, if_false, bne_iff_ne, beq_iff_eq, ne_eq, not_true_eq_false, not_false_eq_true, Bool.not_eq_true', decide_eq_false_iff_not, reduceCtorEq, rows_length, pcs_length, er_ok, er_ok', ep_ok, ep_ok', dr_er, dp_ep, isRows_rows, isPcs_pcs, toRows_rows, toPcs_pcs, rows_take, rows_drop, pcs_take, pcs_drop, rows_append, pcs_append, ints_length, isInts_ints, toInts_ints, ei_i, ei_ok, mk_headD, ints_take, ints_drop, ints_append, ints_snoc, ints_snoc', List.take_length, Nat.zero_add, Nat.le_refl, er_a, er_b, er_k, er_n, er_s, er_v, ep_a, ep_b, ep_hk, ep_hn, ep_hs, ep_wk, ep_wn, ep_ws, hk, hk2, rns_getD hk, rns_getD hk2, hq, wrap_succ (show k < 9223372036854775807 by omega)]
    by_cases c : l[k] = m[k]
    · exact .inl ⟨(), by rw [List.take_succ, List.take_succ, hi, List.getElem?_eq_getElem hk, List.getElem?_eq_getElem hk2, c], by rw [if_neg (by simp [c])]⟩
    · have : ¬ l = m := fun e => c (by subst e; rfl)
      exact .inr ⟨x20_0x0, by simp, by rw [k20_0x0, fd_leaf]; simp [this], by rw [if_pos (by simp [c])]⟩
  · rintro _ hi
    rw [List.take_length, h, List.take_length] at hi
    rw [t20_0]
    exact ⟨x20_0x1 nl tt (rns l) nl2 t2 (rns m) l.length, by simp, by rw [k20_0x1, fd_leaf]; simp [hi], by simp only [rns_length, en_ok, en_ok', isRns_rns, toRns_rns, rns_take, rns_drop, rns_append, rns_snoc', en_c, en_k, en_n, en_s, en_len, en_take, en_take3, en_mk, rns_set, nd_ok, nd_lab, nd_rows, nd_kids, encL_length, isL_enc, decL_enc, wrap_hd, hd_pos, ld_br, ld_chk', ld_leaf, fd_br, fd_chk', fd_leaf, decide_true, decide_eq_true_eq, if_true, Int.toNat_natCast, Int.natCast_nonneg, Int.ofNat_lt, Int.ofNat_le, Bool.false_eq_true, if_false, bne_iff_ne, beq_iff_eq, ne_eq, not_true_eq_false, not_false_eq_true, Bool.not_eq_true', decide_eq_false_iff_not, reduceCtorEq, rows_length, pcs_length, er_ok, er_ok', ep_ok, ep_ok', dr_er, dp_ep, isRows_rows, isPcs_pcs, toRows_rows, toPcs_pcs, rows_take, rows_drop, pcs_take, pcs_drop, rows_append, pcs_append, ints_length, isInts_ints, toInts_ints, ei_i, ei_ok, mk_headD, ints_take, ints_drop, ints_append, ints_snoc, ints_snoc', List.take_length, Nat.zero_add, Nat.le_refl, er_a, er_b, er_k, er_n, er_s, er_v, ep_a, ep_b, ep_hk, ep_hn, ep_hs, ep_wk, ep_wn, ep_ws, Int.lt_irrefl]⟩
theorem s20_ok : CSpecOk E 20 s20 := by
  intro a h cs vals h' he hc
  unfold s20 at he
  split at he <;> simp only [Option.some.injEq, Prod.mk.injEq, reduceCtorEq] at he
  rename_i nl tt xs nl2 t2 ys
  obtain ⟨rfl, rfl, rfl⟩ := he
  simp only [allT, Bool.and_true, Bool.and_eq_true, decide_eq_true_eq] at hc
  obtain ⟨h1, h2, h3⟩ := hc
  obtain ⟨l, rfl⟩ := rns_ex h1
  obtain ⟨m, rfl⟩ := rns_ex h2
  rw [rns_length] at h3
  simp only [toRns_rns]
  exact f20 l m nl tt nl2 t2 h3
/-! ## Reverse -/
theorem rn_getD {l : List Rn} {i : Nat} (h : i < l.length) : l.getD i default = l[i] := by simp [List.getD_eq_getElem?_getD, h]
theorem f63 (l : List Rn) (len : Nat) (hle : len ≤ l.length) (hl : len < 4294967296) : call E 63 [.buf 0 0 0 len] [.mem 4 0 (rns l)] = some ([], [.mem 4 0 (rns ((l.take len).reverse ++ l.drop len))]) := by
  have hct : (ctOf []).ok E := ctOf_nil
  refine call_of (E := E) (sh := sh) (ct := ctOf []) (na := 1) (m := 1) hct rfl rfl rfl rfl rfl rfl ?_
  rw [t63]
  have w0 : IntKind.wrap .i64 ((len : Int) - 1) = (len : Int) - 1 - ((0 : Nat) : Int) := by rw [wrap_same (by omega) (by omega)]; omega
  rw [w0]
  refine fd_post hct (by kernel_rfl) rfl (loops_post (p := p63) hct (b := b63_0) (ι := Nat × List Rn) (fun i => s63_0 len (rns i.2) (i.1 : Int) ((len : Int) - 1 - i.1)) (fun i => i.2.length = l.length ∧ i.1 ≤ len ∧ ∀ j, j < l.length → i.2.getD j default = if j < len ∧ (j < i.1 ∨ len < j + i.1 + 1) then l.getD (len - 1 - j) default else l.getD j default) (fun i => len - i.1) _ ?_ (0, l) ⟨rfl, by simp, fun j hj => by rw [if_neg (by omega)]⟩)
  rintro ⟨i, cur⟩ ⟨h1, h2, h3⟩
  dsimp only at h1 h2 h3 ⊢
  rw [t63_0]
  by_cases hlt : i + i + 1 < len
  · have e3 : (len : Int) - 1 - i = ((len - 1 - i : Nat) : Int) := by omega
    have hi : i < len := by omega
    have hj : len - 1 - i < len := by omega
    have hi' : i < cur.length := by omega
    have hj' : len - 1 - i < cur.length := by omega
    have hij : i < len - 1 - i := by omega
    have hne : i ≠ len - 1 - i := by omega
    have hj2 : len - 1 - i < (cur.set i cur[len - 1 - i]).length := by rw [List.length_set]; exact hj'
    have eset : (cur.set i cur[len - 1 - i])[len - 1 - i]'hj2 = cur[len - 1 - i] := List.getElem_set_ne hne _
    have ws : IntKind.wrap .i64 ((i : Int) + 1) = ((i + 1 : Nat) : Int) := wrap_succ (by omega)
    have wp : IntKind.wrap .i64 (((len - 1 - i : Nat) : Int) - 1) = (len : Int) - 1 - ((i + 1 : Nat) : Int) := by rw [wrap_same (by omega) (by omega)]; omega
    rw [e3]
    simp only [rns_length, en_ok, en_ok', isRns_rns, toRns_rns, rns_take, rns_drop, rns_append, rns_snoc', en_c, en_k, en_n, en_s, en_len, en_take, en_take3, en_mk, rns_set, nd_ok, nd_lab, nd_rows, nd_kids, encL_length, isL_enc, decL_enc, wrap_hd, hd_pos, ld_br, ld_chk', ld_leaf, fd_br, fd_chk', fd_leaf, decide_true, decide_eq_true_eq, if_true, Int.toNat_natCast, Int.natCast_nonneg, Int.ofNat_lt, Int.ofNat_le, Bool.false_eq_true, if_false, bne_iff_ne, beq_iff_eq, ne_eq, not_true_eq_false, not_false_eq_true, Bool.not_eq_true', decide_eq_false_iff_not, reduceCtorEq, rows_length, pcs_length, er_ok, er_ok', ep_ok, ep_ok', dr_er, dp_ep, isRows_rows, isPcs_pcs, toRows_rows, toPcs_pcs, rows_take, rows_drop, pcs_take, pcs_drop, rows_append, pcs_append, ints_length, isInts_ints, toInts_ints, ei_i, ei_ok, mk_headD, ints_take, ints_drop, ints_append, ints_snoc, ints_snoc', List.take_length, Nat.zero_add, Nat.le_refl, er_a, er_b, er_k, er_n, er_s, er_v, ep_a, ep_b, ep_hk, ep_hn, ep_hs, ep_wk, ep_wn, ep_ws, hi, hj, hi', hj', hij, rns_getD hi', rns_getD hj', hj2, rns_getD hj2, ws, wp]
    left
    refine ⟨(i + 1, (cur.set i cur[len - 1 - i]).set (len - 1 - i) cur[i]), ⟨by simp [h1], by dsimp only; omega, fun j hjl => ?_⟩, by dsimp only; omega, rfl⟩
    dsimp only
    have ea := h3 i (by omega)
    have eb := h3 (len - 1 - i) (by omega)
    have ec := h3 j hjl
    rw [rn_getD hi'] at ea
    rw [rn_getD hj'] at eb
    rw [rn_getD (by omega)] at ec
    rw [rn_getD (by simp; omega), List.getElem_set, List.getElem_set]
    by_cases c1 : len - 1 - i = j
    · rw [if_pos c1, ea, if_neg (by omega), if_pos (by omega)]
      congr 1; omega
    · rw [if_neg c1]
      by_cases c2 : i = j
      · rw [if_pos c2, eb, if_neg (by omega), if_pos (by omega)]
        congr 1; omega
      · rw [if_neg c2, ec]
        by_cases c3 : j < len ∧ (j < i ∨ len < j + i + 1)
        · rw [if_pos c3, if_pos (by omega)]
        · rw [if_neg c3, if_neg (by omega)]
  · right
    have c : ¬ (i : Int) < (len : Int) - 1 - i := by omega
    refine ⟨x63_0x0 len (rns cur) i ((len : Int) - 1 - i), by simp, ?_, by simp only [rns_length, en_ok, en_ok', isRns_rns, toRns_rns, rns_take, rns_drop, rns_append, rns_snoc', en_c, en_k, en_n, en_s, en_len, en_take, en_take3, en_mk, rns_set, nd_ok, nd_lab, nd_rows, nd_kids, encL_length, isL_enc, decL_enc, wrap_hd, hd_pos, ld_br, ld_chk', ld_leaf, fd_br, fd_chk', fd_leaf, decide_true, decide_eq_true_eq, if_true, Int.toNat_natCast, Int.natCast_nonneg, Int.ofNat_lt, Int.ofNat_le, Bool.false_eq_true, if_false, bne_iff_ne, beq_iff_eq, ne_eq, not_true_eq_false, not_false_eq_true, Bool.not_eq_true', decide_eq_false_iff_not, reduceCtorEq, rows_length, pcs_length, er_ok, er_ok', ep_ok, ep_ok', dr_er, dp_ep, isRows_rows, isPcs_pcs, toRows_rows, toPcs_pcs, rows_take, rows_drop, pcs_take, pcs_drop, rows_append, pcs_append, ints_length, isInts_ints, toInts_ints, ei_i, ei_ok, mk_headD, ints_take, ints_drop, ints_append, ints_snoc, ints_snoc', List.take_length, Nat.zero_add, Nat.le_refl, er_a, er_b, er_k, er_n, er_s, er_v, ep_a, ep_b, ep_hk, ep_hn, ep_hs, ep_wk, ep_wn, ep_ws, c]⟩
    rw [k63_0x0, fd_leaf]
    have hcur : cur = (l.take len).reverse ++ l.drop len := by
      refine List.ext_getElem (by simp [h1]; omega) fun j hj1 hj2 => ?_
      have ec := h3 j (by omega)
      rw [rn_getD hj1] at ec
      rw [ec]
      by_cases c4 : j < len
      · rw [List.getElem_append_left (by simp; omega), List.getElem_reverse, List.getElem_take]
        have e5 : (l.take len).length = len := by rw [List.length_take]; omega
        by_cases c5 : j < i ∨ len < j + i + 1
        · rw [if_pos ⟨c4, c5⟩, rn_getD (by omega)]
          congr 1; omega
        · rw [if_neg (fun h => c5 h.2), rn_getD (by omega)]
          congr 1; omega
      · rw [if_neg (fun h => c4 h.1), rn_getD (by omega), List.getElem_append_right (by simp; omega), List.getElem_drop]
        congr 1; simp; omega
    rw [hcur]
theorem s63_ok : CSpecOk E 63 s63 := by
  intro a h cs vals h' he hc
  unfold s63 at he
  split at he <;> simp only [Option.some.injEq, Prod.mk.injEq, reduceCtorEq] at he
  rename_i len xs
  obtain ⟨rfl, rfl, rfl⟩ := he
  simp only [allT, Bool.and_true, Bool.and_eq_true, decide_eq_true_eq] at hc
  obtain ⟨h1, h2, h3⟩ := hc
  obtain ⟨l, rfl⟩ := rns_ex h1
  rw [rns_length] at h2
  rw [toRns_rns]
  exact f63 l len h2 h3
/-! ## Halves -/
theorem s58_ok : CSpecOk E 58 s58 := by
  intro a h cs vals h' he hc
  unfold s58 at he
  split at he <;> simp only [Option.some.injEq, Prod.mk.injEq, reduceCtorEq] at he
  rename_i c k m s n
  obtain ⟨rfl, rfl, rfl⟩ := he
  simp only [allT, Bool.and_true, Bool.and_eq_true, decide_eq_true_eq] at hc
  refine call_of (E := E) (sh := sh) (ct := ctOf []) (na := 2) (m := 0) ctOf_nil rfl rfl rfl rfl rfl rfl ?_
  rw [t58, fd_br]
  exact by by_cases h : c ≤ n <;> simp [h, fd_leaf]
end Go.Proofs.YtbilmkcdhodenaaDoor

end

/-
  Chapter 31 (search): Halves, what is small.
-/
section
namespace Go.Proofs.YtbilmkcdhodenaaDoor
open Go Go.Ev

theorem bsN_end (l : List Rn) (b : Int) (f : Nat) {lo hi : Nat} (h : ¬ lo < hi) : bsN l b f lo hi = lo := by
  cases f with
  | zero => rfl
  | succ f => simp only [bsN, if_neg h]
theorem bsN_fuel (l : List Rn) (t : Int) : ∀ (f g lo hi : Nat), hi - lo ≤ f → hi - lo ≤ g → bsN l t f lo hi = bsN l t g lo hi
  | 0, g, lo, hi, h1, h2 => by rw [bsN_end l t 0 (by omega), bsN_end l t g (by omega)]
  | f + 1, 0, lo, hi, h1, h2 => by rw [bsN_end l t 0 (by omega), bsN_end l t (f + 1) (by omega)]
  | f + 1, g + 1, lo, hi, h1, h2 => by
    simp only [bsN]
    split
    · split
      · exact bsN_fuel l t f g _ _ (by omega) (by omega)
      · exact bsN_fuel l t f g _ _ (by omega) (by omega)
    · rfl
theorem bsN_le (l : List Rn) (b : Int) : ∀ (f lo hi : Nat), lo ≤ hi → bsN l b f lo hi ≤ hi
  | 0, lo, hi, h => h
  | f + 1, lo, hi, h => by
    simp only [bsN]
    split
    · split
      · exact bsN_le l b f _ _ (by omega)
      · have := bsN_le l b f lo ((lo + hi) / 2) (by omega); omega
    · exact h
theorem f57 (l : List Rn) (nl : Option Bool) (tt : Bool) (t : Int) (hl : l.length < 4294967296) : call E 57 [.c (.sl 4 nl tt (rns l)), V.i t, .fn 58 []] [] = some ([V.i (bsN l t l.length 0 l.length), V.b false], []) := by
  have hct : (ctOf [(58, s58)]).ok E := ctOf_cons s58_ok ctOf_nil
  refine call_of (E := E) (sh := sh) (ct := ctOf [(58, s58)]) (na := 3) (m := 0) hct rfl rfl rfl rfl rfl rfl ?_
  rw [t57, rns_length]
  refine fd_post hct (by kernel_rfl) rfl (loops_post (p := p57) hct (b := b57_0) (ι := Nat × Nat) (fun i => s57_0 nl tt (rns l) t (l.length : Int) (i.1 : Int) (i.2 : Int)) (fun i => (i.1 ≤ i.2 ∧ i.2 ≤ l.length) ∧ bsN l t (i.2 - i.1) i.1 i.2 = bsN l t l.length 0 l.length) (fun i => i.2 - i.1) _ ?_ (0, l.length) ⟨⟨Nat.zero_le _, Nat.le_refl _⟩, rfl⟩)
  rintro ⟨lo, hi⟩ ⟨⟨h1, h2⟩, h3⟩
  dsimp only at h1 h2 h3 ⊢
  rw [t57_0]
  by_cases hlt : lo < hi
  · have hm : (lo + hi) / 2 < l.length := by omega
    left
    rw [half_wrap (by omega)]
    simp only [rns_length, en_ok, en_ok', isRns_rns, toRns_rns, rns_take, rns_drop, rns_append, rns_snoc', en_c, en_k, en_n, en_s, en_len, en_take, en_take3, en_mk, rns_set, nd_ok, nd_lab, nd_rows, nd_kids, encL_length, isL_enc, decL_enc, wrap_hd, hd_pos, ld_br, ld_chk', ld_leaf, fd_br, fd_chk', fd_leaf, decide_true, decide_eq_true_eq, if_true, Int.toNat_natCast, Int.natCast_nonneg, Int.ofNat_lt, Int.ofNat_le, Bool.false_eq_true, if_false, bne_iff_ne, beq_iff_eq, ne_eq, not_true_eq_false, not_false_eq_true, Bool.not_eq_true', decide_eq_false_iff_not, reduceCtorEq, rows_length, pcs_length, er_ok, er_ok', ep_ok, ep_ok', dr_er, dp_ep, isRows_rows, isPcs_pcs, toRows_rows, toPcs_pcs, rows_take, rows_drop, pcs_take, pcs_drop, rows_append, pcs_append, ints_length, isInts_ints, toInts_ints, ei_i, ei_ok, mk_headD, ints_take, ints_drop, ints_append, ints_snoc, ints_snoc', List.take_length, Nat.zero_add, Nat.le_refl, er_a, er_b, er_k, er_n, er_s, er_v, ep_a, ep_b, ep_hk, ep_hn, ep_hs, ep_wk, ep_wn, ep_ws, hlt, hm, rns_getD hm]
    have hf : hi - lo = (hi - lo - 1) + 1 := by omega
    rw [hf] at h3
    simp only [bsN, if_pos hlt, rn_getD hm] at h3
    by_cases hb : l[(lo + hi) / 2].c ≤ t
    · rw [if_pos hb] at h3
      refine ⟨((lo + hi) / 2 + 1, hi), ⟨⟨by dsimp only; omega, h2⟩, ?_⟩, by dsimp only; omega, ?_⟩
      · rw [← h3]; exact bsN_fuel l t _ _ _ _ (by omega) (by omega)
      · rw [if_pos hb, if_pos (by decide), wrap_succ (by omega)]
    · rw [if_neg hb] at h3
      refine ⟨(lo, (lo + hi) / 2), ⟨⟨by dsimp only; omega, by dsimp only; omega⟩, ?_⟩, by dsimp only; omega, ?_⟩
      · rw [← h3]; exact bsN_fuel l t _ _ _ _ (by omega) (by omega)
      · rw [if_neg hb, if_neg (by decide)]
  · obtain rfl : lo = hi := by omega
    rw [bsN_end _ _ _ (by omega)] at h3
    right
    refine ⟨x57_0x0 nl tt (rns l) t (l.length : Int) lo lo, by simp, ?_, by simp only [rns_length, en_ok, en_ok', isRns_rns, toRns_rns, rns_take, rns_drop, rns_append, rns_snoc', en_c, en_k, en_n, en_s, en_len, en_take, en_take3, en_mk, rns_set, nd_ok, nd_lab, nd_rows, nd_kids, encL_length, isL_enc, decL_enc, wrap_hd, hd_pos, ld_br, ld_chk', ld_leaf, fd_br, fd_chk', fd_leaf, decide_true, decide_eq_true_eq, if_true, Int.toNat_natCast, Int.natCast_nonneg, Int.ofNat_lt, Int.ofNat_le, Bool.false_eq_true, if_false, bne_iff_ne, beq_iff_eq, ne_eq, not_true_eq_false, not_false_eq_true, Bool.not_eq_true', decide_eq_false_iff_not, reduceCtorEq, rows_length, pcs_length, er_ok, er_ok', ep_ok, ep_ok', dr_er, dp_ep, isRows_rows, isPcs_pcs, toRows_rows, toPcs_pcs, rows_take, rows_drop, pcs_take, pcs_drop, rows_append, pcs_append, ints_length, isInts_ints, toInts_ints, ei_i, ei_ok, mk_headD, ints_take, ints_drop, ints_append, ints_snoc, ints_snoc', List.take_length, Nat.zero_add, Nat.le_refl, er_a, er_b, er_k, er_n, er_s, er_v, ep_a, ep_b, ep_hk, ep_hn, ep_hs, ep_wk, ep_wn, ep_ws, Int.lt_irrefl]⟩
    rw [k57_0x0, ← h3]
    by_cases hr : lo < l.length
    · simp only [rns_length, en_ok, en_ok', isRns_rns, toRns_rns, rns_take, rns_drop, rns_append, rns_snoc', en_c, en_k, en_n, en_s, en_len, en_take, en_take3, en_mk, rns_set, nd_ok, nd_lab, nd_rows, nd_kids, encL_length, isL_enc, decL_enc, wrap_hd, hd_pos, ld_br, ld_chk', ld_leaf, fd_br, fd_chk', fd_leaf, decide_true, decide_eq_true_eq, if_true, Int.toNat_natCast, Int.natCast_nonneg, Int.ofNat_lt, Int.ofNat_le, Bool.false_eq_true, if_false, bne_iff_ne, beq_iff_eq, ne_eq, not_true_eq_false, not_false_eq_true, Bool.not_eq_true', decide_eq_false_iff_not, reduceCtorEq, rows_length, pcs_length, er_ok, er_ok', ep_ok, ep_ok', dr_er, dp_ep, isRows_rows, isPcs_pcs, toRows_rows, toPcs_pcs, rows_take, rows_drop, pcs_take, pcs_drop, rows_append, pcs_append, ints_length, isInts_ints, toInts_ints, ei_i, ei_ok, mk_headD, ints_take, ints_drop, ints_append, ints_snoc, ints_snoc', List.take_length, Nat.zero_add, Nat.le_refl, er_a, er_b, er_k, er_n, er_s, er_v, ep_a, ep_b, ep_hk, ep_hn, ep_hs, ep_wk, ep_wn, ep_ws, hr, rns_getD hr]
      by_cases hb : l[lo].c ≤ t <;> simp [hb]
    · simp only [rns_length, en_ok, en_ok', isRns_rns, toRns_rns, rns_take, rns_drop, rns_append, rns_snoc', en_c, en_k, en_n, en_s, en_len, en_take, en_take3, en_mk, rns_set, nd_ok, nd_lab, nd_rows, nd_kids, encL_length, isL_enc, decL_enc, wrap_hd, hd_pos, ld_br, ld_chk', ld_leaf, fd_br, fd_chk', fd_leaf, decide_true, decide_eq_true_eq, if_true, Int.toNat_natCast, Int.natCast_nonneg, Int.ofNat_lt, Int.ofNat_le, Bool.false_eq_true, if_false, bne_iff_ne, beq_iff_eq, ne_eq, not_true_eq_false, not_false_eq_true, Bool.not_eq_true', decide_eq_false_iff_not, reduceCtorEq, rows_length, pcs_length, er_ok, er_ok', ep_ok, ep_ok', dr_er, dp_ep, isRows_rows, isPcs_pcs, toRows_rows, toPcs_pcs, rows_take, rows_drop, pcs_take, pcs_drop, rows_append, pcs_append, ints_length, isInts_ints, toInts_ints, ei_i, ei_ok, mk_headD, ints_take, ints_drop, ints_append, ints_snoc, ints_snoc', List.take_length, Nat.zero_add, Nat.le_refl, er_a, er_b, er_k, er_n, er_s, er_v, ep_a, ep_b, ep_hk, ep_hn, ep_hs, ep_wk, ep_wn, ep_ws, hr]
theorem s57_ok : CSpecOk E 57 s57 := by
  intro a h cs vals h' he hc
  unfold s57 at he
  split at he <;> simp only [Option.some.injEq, Prod.mk.injEq, reduceCtorEq] at he
  rename_i nl tt xs n
  obtain ⟨rfl, rfl, rfl⟩ := he
  simp only [allT, Bool.and_true, Bool.and_eq_true, decide_eq_true_eq] at hc
  obtain ⟨h1, h2⟩ := hc
  obtain ⟨l, rfl⟩ := rns_ex h1
  rw [rns_length] at h2
  simp only [rns_length, toRns_rns]
  exact f57 l nl tt n h2
theorem riseN_iff : ∀ (l : List Rn), riseN l = true ↔ ∀ i, i + 1 < l.length → (l.getD i default).c < (l.getD (i + 1) default).c
  | [] => by simp [riseN]
  | [x] => by simp [riseN]
  | x :: y :: r => by
    rw [riseN, Bool.and_eq_true, decide_eq_true_eq, riseN_iff (y :: r)]
    constructor
    · rintro ⟨h1, h2⟩ i hi
      cases i with
      | zero => exact h1
      | succ i => exact h2 i (by simpa using hi)
    · intro h
      exact ⟨h 0 (by simp), fun i hi => h (i + 1) (by simpa using hi)⟩
theorem f15 (l : List Rn) (nl : Option Bool) (tt : Bool) (n : Int) (hl : l.length < 4294967296) : call E 15 [.c (.sl 4 nl tt (rns l)), V.i n] [] = some ([V.i (halvesP l n)], []) := by
  have hct : (ctOf [(57, s57)]).ok E := ctOf_cons s57_ok ctOf_nil
  refine call_of (E := E) (sh := sh) (ct := ctOf [(57, s57)]) (na := 2) (m := 0) hct rfl rfl rfl rfl rfl rfl ?_
  rw [t15, rns_length]
  refine fd_post hct (by kernel_rfl) rfl (list_post (p := p15) hct (b := b15_0) l.length (fun k (_ : Unit) => s15_0 nl tt (rns l) n l.length k) (fun k _ => ∀ i, i + 1 < k → (l.getD i default).c < (l.getD (i + 1) default).c) _ ?_ ?_ 0 (Nat.zero_le _) () (fun i h => by omega))
  · rintro k _ hk hi
    rw [t15_0]
    cases k with
    | zero =>
      simp only [rns_length, en_ok, en_ok', isRns_rns, toRns_rns, rns_take, rns_drop, rns_append, rns_snoc', en_c, en_k, en_n, en_s, en_len, en_take, en_take3, en_mk, rns_set, nd_ok, nd_lab, nd_rows, nd_kids, encL_length, isL_enc, decL_enc, wrap_hd, hd_pos, ld_br, ld_chk', ld_leaf, fd_br, fd_chk', fd_leaf, decide_true, decide_eq_true_eq, if_true, Int.toNat_natCast, Int.natCast_nonneg, Int.ofNat_lt, Int.ofNat_le, Bool.false_eq_true, if_false, bne_iff_ne, beq_iff_eq, ne_eq, not_true_eq_false, not_false_eq_true, Bool.not_eq_true', decide_eq_false_iff_not, reduceCtorEq, rows_length, pcs_length, er_ok, er_ok', ep_ok, ep_ok', dr_er, dp_ep, isRows_rows, isPcs_pcs, toRows_rows, toPcs_pcs, rows_take, rows_drop, pcs_take, pcs_drop, rows_append, pcs_append, ints_length, isInts_ints, toInts_ints, ei_i, ei_ok, mk_headD, ints_take, ints_drop, ints_append, ints_snoc, ints_snoc', List.take_length, Nat.zero_add, Nat.le_refl, er_a, er_b, er_k, er_n, er_s, er_v, ep_a, ep_b, ep_hk, ep_hn, ep_hs, ep_wk, ep_wn, ep_ws, hk, wrap_succ (show 0 < 9223372036854775807 by omega)]
      exact .inl ⟨(), fun i h => by omega, by simp⟩
    | succ k =>
      have hk' : k < l.length := by omega
      simp only [rns_length, en_ok, en_ok', isRns_rns, toRns_rns, rns_take, rns_drop, rns_append, rns_snoc', en_c, en_k, en_n, en_s, en_len, en_take, en_take3, en_mk, rns_set, nd_ok, nd_lab, nd_rows, nd_kids, encL_length, isL_enc, decL_enc, wrap_hd, hd_pos, ld_br, ld_chk', ld_leaf, fd_br, fd_chk', fd_leaf, decide_true, decide_eq_true_eq, if_true, Int.toNat_natCast, Int.natCast_nonneg, Int.ofNat_lt, Int.ofNat_le, Bool.false_eq_true, if_false, bne_iff_ne, beq_iff_eq, ne_eq, not_true_eq_false, not_false_eq_true, Bool.not_eq_true', decide_eq_false_iff_not, reduceCtorEq, rows_length, pcs_length, er_ok, er_ok', ep_ok, ep_ok', dr_er, dp_ep, isRows_rows, isPcs_pcs, toRows_rows, toPcs_pcs, rows_take, rows_drop, pcs_take, pcs_drop, rows_append, pcs_append, ints_length, isInts_ints, toInts_ints, ei_i, ei_ok, mk_headD, ints_take, ints_drop, ints_append, ints_snoc, ints_snoc', List.take_length, Nat.zero_add, Nat.le_refl, er_a, er_b, er_k, er_n, er_s, er_v, ep_a, ep_b, ep_hk, ep_hn, ep_hs, ep_wk, ep_wn, ep_ws, hk, hk', rns_getD hk, rns_getD hk', wrap_pred (show 0 < k + 1 by omega) (show k + 1 < 9223372036854775807 by omega), Nat.add_sub_cancel, show (0 : Int) < ((k + 1 : Nat) : Int) by omega, wrap_succ (show k + 1 < 9223372036854775807 by omega)]
      by_cases c : l[k + 1].c ≤ l[k].c
      · have hr : ¬ riseN l = true := fun h => by
          have := (riseN_iff l).1 h k hk
          rw [rn_getD hk', rn_getD hk] at this
          omega
        exact .inr ⟨x15_0x0, by simp, by rw [k15_0x0, fd_leaf, halvesP, if_neg hr], by rw [if_pos c]⟩
      · refine .inl ⟨(), fun i h => ?_, by rw [if_neg c]⟩
        by_cases e : i = k
        · subst e; rw [rn_getD hk', rn_getD hk]; omega
        · exact hi i (by omega)
  · rintro _ hi
    rw [t15_0]
    refine ⟨x15_0x1 nl tt (rns l) n l.length l.length, by simp, ?_, by simp only [rns_length, en_ok, en_ok', isRns_rns, toRns_rns, rns_take, rns_drop, rns_append, rns_snoc', en_c, en_k, en_n, en_s, en_len, en_take, en_take3, en_mk, rns_set, nd_ok, nd_lab, nd_rows, nd_kids, encL_length, isL_enc, decL_enc, wrap_hd, hd_pos, ld_br, ld_chk', ld_leaf, fd_br, fd_chk', fd_leaf, decide_true, decide_eq_true_eq, if_true, Int.toNat_natCast, Int.natCast_nonneg, Int.ofNat_lt, Int.ofNat_le, Bool.false_eq_true, if_false, bne_iff_ne, beq_iff_eq, ne_eq, not_true_eq_false, not_false_eq_true, Bool.not_eq_true', decide_eq_false_iff_not, reduceCtorEq, rows_length, pcs_length, er_ok, er_ok', ep_ok, ep_ok', dr_er, dp_ep, isRows_rows, isPcs_pcs, toRows_rows, toPcs_pcs, rows_take, rows_drop, pcs_take, pcs_drop, rows_append, pcs_append, ints_length, isInts_ints, toInts_ints, ei_i, ei_ok, mk_headD, ints_take, ints_drop, ints_append, ints_snoc, ints_snoc', List.take_length, Nat.zero_add, Nat.le_refl, er_a, er_b, er_k, er_n, er_s, er_v, ep_a, ep_b, ep_hk, ep_hn, ep_hs, ep_wk, ep_wn, ep_ws, Int.lt_irrefl]⟩
    have hb := bsN_le l n l.length 0 l.length (Nat.zero_le _)
    have hw : IntKind.wrap .i64 ((bsN l n l.length 0 l.length : Int) - 1) = (bsN l n l.length 0 l.length : Int) - 1 := wrap_same (by omega) (by omega)
    rw [k15_0x1]
    simp only [rns_length, en_ok, en_ok', isRns_rns, toRns_rns, rns_take, rns_drop, rns_append, rns_snoc', en_c, en_k, en_n, en_s, en_len, en_take, en_take3, en_mk, rns_set, nd_ok, nd_lab, nd_rows, nd_kids, encL_length, isL_enc, decL_enc, wrap_hd, hd_pos, ld_br, ld_chk', ld_leaf, fd_br, fd_chk', fd_leaf, decide_true, decide_eq_true_eq, if_true, Int.toNat_natCast, Int.natCast_nonneg, Int.ofNat_lt, Int.ofNat_le, Bool.false_eq_true, if_false, bne_iff_ne, beq_iff_eq, ne_eq, not_true_eq_false, not_false_eq_true, Bool.not_eq_true', decide_eq_false_iff_not, reduceCtorEq, rows_length, pcs_length, er_ok, er_ok', ep_ok, ep_ok', dr_er, dp_ep, isRows_rows, isPcs_pcs, toRows_rows, toPcs_pcs, rows_take, rows_drop, pcs_take, pcs_drop, rows_append, pcs_append, ints_length, isInts_ints, toInts_ints, ei_i, ei_ok, mk_headD, ints_take, ints_drop, ints_append, ints_snoc, ints_snoc', List.take_length, Nat.zero_add, Nat.le_refl, er_a, er_b, er_k, er_n, er_s, er_v, ep_a, ep_b, ep_hk, ep_hn, ep_hs, ep_wk, ep_wn, ep_ws, hl, hw, halvesP, (riseN_iff l).2 hi]
theorem s15_ok : CSpecOk E 15 s15 := by
  intro a h cs vals h' he hc
  unfold s15 at he
  split at he <;> simp only [Option.some.injEq, Prod.mk.injEq, reduceCtorEq] at he
  rename_i nl tt xs n
  obtain ⟨rfl, rfl, rfl⟩ := he
  simp only [allT, Bool.and_true, Bool.and_eq_true, decide_eq_true_eq] at hc
  obtain ⟨h1, h2⟩ := hc
  obtain ⟨l, rfl⟩ := rns_ex h1
  rw [rns_length] at h2
  rw [toRns_rns]
  exact f15 l nl tt n h2
theorem halvesG_cons (n : Int) (p : Option Int) (k : Nat) (a : Int) (x : Rn) (r : List Rn) : halvesG n p k a (x :: r) = if (match p with | some c => decide (x.c ≤ c) | none => false) = true then -1 else halvesG n (some x.c) (k + 1) (if x.c ≤ n then (k : Int) else a) r := by
  cases p <;> rfl
theorem f16 (l : List Rn) (nl : Option Bool) (tt : Bool) (n : Int) (hl : l.length < 4294967296) : call E 16 [.c (.sl 4 nl tt (rns l)), V.i n] [] = some ([V.i (halvesR l n)], []) := by
  have hct : (ctOf []).ok E := ctOf_nil
  refine call_of (E := E) (sh := sh) (ct := ctOf []) (na := 2) (m := 0) hct rfl rfl rfl rfl rfl rfl ?_
  rw [t16]
  refine fd_post hct (by kernel_rfl) rfl (list_post (p := p16) hct (b := b16_0) l.length (fun k (a : Int) => s16_0 nl tt (rns l) n a k) (fun k a => halvesG n (if k = 0 then none else some (l.getD (k - 1) default).c) k a (l.drop k) = halvesR l n) _ ?_ ?_ 0 (Nat.zero_le _) (-1) rfl)
  · rintro k a hk hi
    rw [List.drop_eq_getElem_cons hk, halvesG_cons] at hi
    rw [t16_0]
    cases k with
    | zero =>
      simp only [rns_length, en_ok, en_ok', isRns_rns, toRns_rns, rns_take, rns_drop, rns_append, rns_snoc', en_c, en_k, en_n, en_s, en_len, en_take, en_take3, en_mk, rns_set, nd_ok, nd_lab, nd_rows, nd_kids, encL_length, isL_enc, decL_enc, wrap_hd, hd_pos, ld_br, ld_chk', ld_leaf, fd_br, fd_chk', fd_leaf, decide_true, decide_eq_true_eq, if_true, Int.toNat_natCast, Int.natCast_nonneg, Int.ofNat_lt, Int.ofNat_le, Bool.false_eq_true, if_false, bne_iff_ne, beq_iff_eq, ne_eq, not_true_eq_false, not_false_eq_true, Bool.not_eq_true', decide_eq_false_iff_not, reduceCtorEq, rows_length, pcs_length, er_ok, er_ok', ep_ok, ep_ok', dr_er, dp_ep, isRows_rows, isPcs_pcs, toRows_rows, toPcs_pcs, rows_take, rows_drop, pcs_take, pcs_drop, rows_append, pcs_append, ints_length, isInts_ints, toInts_ints, ei_i, ei_ok, mk_headD, ints_take, ints_drop, ints_append, ints_snoc, ints_snoc', List.take_length, Nat.zero_add, Nat.le_refl, er_a, er_b, er_k, er_n, er_s, er_v, ep_a, ep_b, ep_hk, ep_hn, ep_hs, ep_wk, ep_wn, ep_ws, hk, rns_getD hk, wrap_succ (show 0 < 9223372036854775807 by omega)] at hi ⊢
      refine .inl ⟨if l[0].c ≤ n then (0 : Int) else a, by rw [← hi]; simp [hk], ?_⟩
      by_cases c : l[0].c ≤ n <;> simp [c] <;> rfl
    | succ k =>
      have hk' : k < l.length := by omega
      rw [if_neg (show ¬ (k + 1 = 0) by omega)] at hi
      simp only [Nat.add_sub_cancel, rn_getD hk', decide_eq_true_eq] at hi
      simp only [rns_length, en_ok, en_ok', isRns_rns, toRns_rns, rns_take, rns_drop, rns_append, rns_snoc', en_c, en_k, en_n, en_s, en_len, en_take, en_take3, en_mk, rns_set, nd_ok, nd_lab, nd_rows, nd_kids, encL_length, isL_enc, decL_enc, wrap_hd, hd_pos, ld_br, ld_chk', ld_leaf, fd_br, fd_chk', fd_leaf, decide_true, decide_eq_true_eq, if_true, Int.toNat_natCast, Int.natCast_nonneg, Int.ofNat_lt, Int.ofNat_le, Bool.false_eq_true, if_false, bne_iff_ne, beq_iff_eq, ne_eq, not_true_eq_false, not_false_eq_true, Bool.not_eq_true', decide_eq_false_iff_not, reduceCtorEq, rows_length, pcs_length, er_ok, er_ok', ep_ok, ep_ok', dr_er, dp_ep, isRows_rows, isPcs_pcs, toRows_rows, toPcs_pcs, rows_take, rows_drop, pcs_take, pcs_drop, rows_append, pcs_append, ints_length, isInts_ints, toInts_ints, ei_i, ei_ok, mk_headD, ints_take, ints_drop, ints_append, ints_snoc, ints_snoc', List.take_length, Nat.zero_add, Nat.le_refl, er_a, er_b, er_k, er_n, er_s, er_v, ep_a, ep_b, ep_hk, ep_hn, ep_hs, ep_wk, ep_wn, ep_ws, hk, hk', rns_getD hk, rns_getD hk', wrap_pred (show 0 < k + 1 by omega) (show k + 1 < 9223372036854775807 by omega), Nat.add_sub_cancel, show (0 : Int) < ((k + 1 : Nat) : Int) by omega, wrap_succ (show k + 1 < 9223372036854775807 by omega)]
      by_cases c : l[k + 1].c ≤ l[k].c
      · rw [if_pos c] at hi
        exact .inr ⟨x16_0x0, by simp, by rw [k16_0x0, fd_leaf, ← hi], by rw [if_pos c]⟩
      · rw [if_neg c] at hi
        refine .inl ⟨if l[k + 1].c ≤ n then ((k + 1 : Nat) : Int) else a, by rw [← hi]; show halvesG n (some (l.getD (k + 1) default).c) _ _ _ = _; rw [rn_getD hk], ?_⟩
        rw [if_neg c]
        by_cases c2 : l[k + 1].c ≤ n
        · rw [if_pos c2, if_pos c2]
        · rw [if_neg c2, if_neg c2]
  · rintro a hi
    have hz : ∀ p k b, halvesG n p k b [] = b := fun p _ _ => by cases p <;> rfl
    rw [List.drop_length, hz] at hi
    rw [t16_0]
    exact ⟨x16_0x1 nl tt (rns l) n a l.length, by simp, by rw [k16_0x1, fd_leaf, ← hi], by simp only [rns_length, en_ok, en_ok', isRns_rns, toRns_rns, rns_take, rns_drop, rns_append, rns_snoc', en_c, en_k, en_n, en_s, en_len, en_take, en_take3, en_mk, rns_set, nd_ok, nd_lab, nd_rows, nd_kids, encL_length, isL_enc, decL_enc, wrap_hd, hd_pos, ld_br, ld_chk', ld_leaf, fd_br, fd_chk', fd_leaf, decide_true, decide_eq_true_eq, if_true, Int.toNat_natCast, Int.natCast_nonneg, Int.ofNat_lt, Int.ofNat_le, Bool.false_eq_true, if_false, bne_iff_ne, beq_iff_eq, ne_eq, not_true_eq_false, not_false_eq_true, Bool.not_eq_true', decide_eq_false_iff_not, reduceCtorEq, rows_length, pcs_length, er_ok, er_ok', ep_ok, ep_ok', dr_er, dp_ep, isRows_rows, isPcs_pcs, toRows_rows, toPcs_pcs, rows_take, rows_drop, pcs_take, pcs_drop, rows_append, pcs_append, ints_length, isInts_ints, toInts_ints, ei_i, ei_ok, mk_headD, ints_take, ints_drop, ints_append, ints_snoc, ints_snoc', List.take_length, Nat.zero_add, Nat.le_refl, er_a, er_b, er_k, er_n, er_s, er_v, ep_a, ep_b, ep_hk, ep_hn, ep_hs, ep_wk, ep_wn, ep_ws, Int.lt_irrefl]⟩
theorem s16_ok : CSpecOk E 16 s16 := by
  intro a h cs vals h' he hc
  unfold s16 at he
  split at he <;> simp only [Option.some.injEq, Prod.mk.injEq, reduceCtorEq] at he
  rename_i nl tt xs n
  obtain ⟨rfl, rfl, rfl⟩ := he
  simp only [allT, Bool.and_true, Bool.and_eq_true, decide_eq_true_eq] at hc
  obtain ⟨h1, h2⟩ := hc
  obtain ⟨l, rfl⟩ := rns_ex h1
  rw [rns_length] at h2
  rw [toRns_rns]
  exact f16 l nl tt n h2
/-! ## Small -/
theorem f17_in (dd : Nat) (hd : CSpecOk E 59 (s59 dd)) (l : List Gr.Cm) (hl : l.length ≤ 30) (ys : List (List C)) (nl : Option Bool) (tt : Bool) (kn : Option Bool) (kt : Bool) (m : Int) : (p17 dd).fd (Tr.ls 1 (s17_1 nl tt (Gr.repo l) kn kt ys m 0)) = some (.out [V.b ((l.all fun c => decide (c.1.length ≤ 5)) && decide (0 < m))] []) := by
  have hct : (ctOf [(59, s59 dd)]).ok E := ctOf_cons hd ctOf_nil
  refine fd_post (p := p17 dd) hct (by kernel_rfl) rfl (list_post (p := p17 dd) hct (b := b17_1) l.length (fun k (_ : Unit) => s17_1 nl tt (Gr.repo l) kn kt ys m k) (fun k _ => ((l.drop k).all fun c => decide (c.1.length ≤ 5)) = (l.all fun c => decide (c.1.length ≤ 5))) _ ?_ ?_ 0 (Nat.zero_le _) () rfl)
  · rintro k _ hk hi
    rw [List.drop_eq_getElem_cons hk, List.all_cons] at hi
    rw [t17_1]
    simp only [nd_ok, nd_lab, nd_rows, nd_kids, encL_length, isL_enc, decL_enc, wrap_hd, hd_pos, ld_br, ld_chk', ld_leaf, fd_br, fd_chk', fd_leaf, decide_true, decide_eq_true_eq, if_true, Int.toNat_natCast, Int.natCast_nonneg, Int.ofNat_lt, Int.ofNat_le, Bool.false_eq_true, if_false, bne_iff_ne, beq_iff_eq, ne_eq, not_true_eq_false, not_false_eq_true, Bool.not_eq_true', decide_eq_false_iff_not, reduceCtorEq, rows_length, pcs_length, er_ok, er_ok', ep_ok, ep_ok', dr_er, dp_ep, isRows_rows, isPcs_pcs, toRows_rows, toPcs_pcs, rows_take, rows_drop, pcs_take, pcs_drop, rows_append, pcs_append, ints_length, isInts_ints, toInts_ints, ei_i, ei_ok, mk_headD, ints_take, ints_drop, ints_append, ints_snoc, ints_snoc', List.take_length, Nat.zero_add, Nat.le_refl, er_a, er_b, er_k, er_n, er_s, er_v, ep_a, ep_b, ep_hk, ep_hn, ep_hs, ep_wk, ep_wn, ep_ws, hk, Gr.repo_length, Gr.repo_getD hk, Gr.ec_ok, Gr.ec_par, wrap_succ (show k < 9223372036854775807 by omega)]
    by_cases c : (5 : Int) < l[k].1.length
    · have : ¬ l[k].1.length ≤ 5 := by omega
      simp only [this, decide_false, Bool.false_and] at hi
      exact .inr ⟨x17_1x0 nl tt (Gr.repo l) kn kt ys, by simp, by rw [k17_1x0, fd_leaf, ← hi, Bool.false_and], by rw [if_pos c]⟩
    · have : l[k].1.length ≤ 5 := by omega
      simp only [this, decide_true, Bool.true_and] at hi
      exact .inl ⟨(), hi, by rw [if_neg c]⟩
  · rintro _ hi
    rw [List.drop_length, List.all_nil] at hi
    rw [t17_1]
    exact ⟨x17_1x1 nl tt (Gr.repo l) kn kt ys m l.length, by simp, by rw [k17_1x1, fd_leaf, ← hi, Bool.true_and], by simp only [nd_ok, nd_lab, nd_rows, nd_kids, encL_length, isL_enc, decL_enc, wrap_hd, hd_pos, ld_br, ld_chk', ld_leaf, fd_br, fd_chk', fd_leaf, decide_true, decide_eq_true_eq, if_true, Int.toNat_natCast, Int.natCast_nonneg, Int.ofNat_lt, Int.ofNat_le, Bool.false_eq_true, if_false, bne_iff_ne, beq_iff_eq, ne_eq, not_true_eq_false, not_false_eq_true, Bool.not_eq_true', decide_eq_false_iff_not, reduceCtorEq, rows_length, pcs_length, er_ok, er_ok', ep_ok, ep_ok', dr_er, dp_ep, isRows_rows, isPcs_pcs, toRows_rows, toPcs_pcs, rows_take, rows_drop, pcs_take, pcs_drop, rows_append, pcs_append, ints_length, isInts_ints, toInts_ints, ei_i, ei_ok, mk_headD, ints_take, ints_drop, ints_append, ints_snoc, ints_snoc', List.take_length, Nat.zero_add, Nat.le_refl, er_a, er_b, er_k, er_n, er_s, er_v, ep_a, ep_b, ep_hk, ep_hn, ep_hs, ep_wk, ep_wn, ep_ws, Gr.repo_length, Int.lt_irrefl]⟩
theorem f17 (l : List Gr.Cm) (ks : List Nd) (nl : Option Bool) (tt : Bool) (kn : Option Bool) (kt : Bool) (hL : lensL ks = true) : call E 17 [.agg [.c (.sl 2 nl tt (Gr.repo l)), .c (.sl 3 kn kt (encL ks))]] [] = some ([V.b (smallW l ks)], []) := by
  have hs := s59_ok (depL ks + 1)
  have hct : (ctOf [(59, s59 (depL ks + 1))]).ok E := ctOf_cons hs ctOf_nil
  refine call_of (E := E) (sh := sh) (ct := ctOf [(59, s59 (depL ks + 1))]) (na := 1) (m := 0) hct rfl rfl rfl rfl rfl rfl ?_
  show (p17 (depL ks + 1)).fd ((p17 (depL ks + 1)).ft _ _) = _
  rw [t17]
  simp only [fd_br, fd_leaf, Gr.repo_length, encL_length, decide_eq_true_eq]
  unfold smallW
  by_cases c1 : (30 : Int) < l.length
  · have : ¬ l.length ≤ 30 := by omega
    rw [if_pos c1]; simp [this]
  rw [if_neg c1]
  by_cases c2 : (30 : Int) < ks.length
  · have : ¬ ks.length ≤ 30 := by omega
    rw [if_pos c2]; simp [this]
  rw [if_neg c2]
  have d1 : l.length ≤ 30 := by omega
  have d2 : ks.length ≤ 30 := by omega
  simp only [d1, d2, decide_true, Bool.true_and]
  refine fd_post hct (by kernel_rfl) rfl (list_post (p := p17 (depL ks + 1)) hct (b := b17_0) ks.length (fun k (m : Int) => s17_0 nl tt (Gr.repo l) kn kt (encL ks) m k) (fun k m => leftL (ks.drop k) m 60 = leftL ks 600 60 ∧ 0 ≤ m ∧ m ≤ 600) _ ?_ ?_ 0 (Nat.zero_le _) 600 ⟨rfl, by omega, by omega⟩)
  · rintro k m hk ⟨hi, h1, h2⟩
    rw [List.drop_eq_getElem_cons hk, leftL_cons] at hi
    have hkid : depL ks[k].kids < depL ks + 1 := by have := depL_kid (List.getElem_mem hk); omega
    have hlt := lensL_mem hL (List.getElem_mem hk)
    have hle := leftT_le ks[k] m 60 h1
    rw [t17_0]
    simp only [nd_ok, nd_lab, nd_rows, nd_kids, encL_length, isL_enc, decL_enc, wrap_hd, hd_pos, ld_br, ld_chk', ld_leaf, fd_br, fd_chk', fd_leaf, decide_true, decide_eq_true_eq, if_true, Int.toNat_natCast, Int.natCast_nonneg, Int.ofNat_lt, Int.ofNat_le, Bool.false_eq_true, if_false, bne_iff_ne, beq_iff_eq, ne_eq, not_true_eq_false, not_false_eq_true, Bool.not_eq_true', decide_eq_false_iff_not, reduceCtorEq, rows_length, pcs_length, er_ok, er_ok', ep_ok, ep_ok', dr_er, dp_ep, isRows_rows, isPcs_pcs, toRows_rows, toPcs_pcs, rows_take, rows_drop, pcs_take, pcs_drop, rows_append, pcs_append, ints_length, isInts_ints, toInts_ints, ei_i, ei_ok, mk_headD, ints_take, ints_drop, ints_append, ints_snoc, ints_snoc', List.take_length, Nat.zero_add, Nat.le_refl, er_a, er_b, er_k, er_n, er_s, er_v, ep_a, ep_b, ep_hk, ep_hn, ep_hs, ep_wk, ep_wn, ep_ws, hk, encL_getD hk, nd_node, hkid, hlt, h1, show m ≤ 1000 by omega, wrap_succ (show k < 9223372036854775807 by omega)]
    by_cases c : 0 < m
    · rw [if_pos c] at hi
      exact .inl ⟨leftT ks[k] m 60, ⟨hi, hle.1, by omega⟩, by rw [if_pos c]⟩
    · rw [if_neg c] at hi
      exact .inr ⟨x17_0x0 nl tt (Gr.repo l) kn kt (encL ks) m k, by simp, by rw [k17_0x0, f17_in _ hs l d1, hi], by rw [if_neg c]⟩
  · rintro m ⟨hi, h1, h2⟩
    rw [List.drop_length, leftL] at hi
    rw [t17_0]
    exact ⟨x17_0x0 nl tt (Gr.repo l) kn kt (encL ks) m ks.length, by simp, by rw [k17_0x0, f17_in _ hs l d1, hi], by simp only [nd_ok, nd_lab, nd_rows, nd_kids, encL_length, isL_enc, decL_enc, wrap_hd, hd_pos, ld_br, ld_chk', ld_leaf, fd_br, fd_chk', fd_leaf, decide_true, decide_eq_true_eq, if_true, Int.toNat_natCast, Int.natCast_nonneg, Int.ofNat_lt, Int.ofNat_le, Bool.false_eq_true, if_false, bne_iff_ne, beq_iff_eq, ne_eq, not_true_eq_false, not_false_eq_true, Bool.not_eq_true', decide_eq_false_iff_not, reduceCtorEq, rows_length, pcs_length, er_ok, er_ok', ep_ok, ep_ok', dr_er, dp_ep, isRows_rows, isPcs_pcs, toRows_rows, toPcs_pcs, rows_take, rows_drop, pcs_take, pcs_drop, rows_append, pcs_append, ints_length, isInts_ints, toInts_ints, ei_i, ei_ok, mk_headD, ints_take, ints_drop, ints_append, ints_snoc, ints_snoc', List.take_length, Nat.zero_add, Nat.le_refl, er_a, er_b, er_k, er_n, er_s, er_v, ep_a, ep_b, ep_hk, ep_hn, ep_hs, ep_wk, ep_wn, ep_ws, Int.lt_irrefl]⟩
theorem s17_ok : CSpecOk E 17 s17 := by
  intro a h cs vals h' he hc
  unfold s17 at he
  split at he <;> simp only [Option.some.injEq, Prod.mk.injEq, reduceCtorEq] at he
  rename_i nl tt xs kn kt ys
  obtain ⟨rfl, rfl, rfl⟩ := he
  simp only [allT, Bool.and_true, Bool.and_eq_true, decide_eq_true_eq] at hc
  obtain ⟨h1, h2, h3⟩ := hc
  obtain ⟨l, rfl⟩ := repo_ex h1
  obtain ⟨ks, rfl⟩ := isL_ex h2
  rw [decL_enc] at h3
  rw [decL_enc, Gr.toRepo_repo]
  exact f17 l ks nl tt kn kt h3
end Go.Proofs.YtbilmkcdhodenaaDoor

end

/-
  Chapter 31 (search): who goes along the commits; the reference.
-/
section
namespace Go.Proofs.YtbilmkcdhodenaaDoor
open Go Go.Ev

theorem call100 {l : List Gr.Cm} {ks : List Nd} {nl : Option Bool} {tt : Bool} {kn : Option Bool} {kt : Bool} {n : Int} {q : List UInt8} {t : Int} (hs : Gr.smallB l = true) (hl : ks.length < 4294967296) : ∀ u b, Want ((backP l ks n q t).map encN) u b →
    ∃ vals h1, call E 100 [.yl 4, .ptr 0 0 0 0, .ptr 1 0 0 0, .ptr 2 0 0 0, .ptr 3 0 0 0] (boxW nl tt l kn kt ks n q t ++ [.yo u b]) = some (vals, h1) ∧ spent h1 4 = true := fun u b hw =>
  ⟨_, _, f100 l ks nl tt kn kt n q t hs hl u b hw, rfl⟩
theorem sq_ok (l : List Gr.Cm) (ks : List Nd) (nl : Option Bool) (tt : Bool) (kn : Option Bool) (kt : Bool) (n : Int) (q : List UInt8) (t : Int) : E.seq 100 [.yl 4, .ptr 0 0 0 0, .ptr 1 0 0 0, .ptr 2 0 0 0, .ptr 3 0 0 0] (boxW nl tt l kn kt ks n q t) = some ((backP l ks n q t).map encN) := by
  have : sq 100 [.yl 4, .ptr 0 0 0 0, .ptr 1 0 0 0, .ptr 2 0 0 0, .ptr 3 0 0 0] (boxW nl tt l kn kt ks n q t) = some ((backP l ks n q t).map encN) := by
    simp only [sq, boxW, Gr.toRepo_repo, decL_enc]
  exact this
theorem backP_len (l : List Gr.Cm) (ks : List Nd) (n : Int) (q : List UInt8) (t : Int) : (backP l ks n q t).length ≤ 501 := by
  unfold backP
  split
  · rw [List.length_map]; exact firstG_len l n
  · simp
/-! ## Value -/
theorem f18 (l : List Gr.Cm) (ks : List Nd) (nl : Option Bool) (tt : Bool) (kn : Option Bool) (kt : Bool) (n : Int) (q : List UInt8) (t : Int) (hs : Gr.smallB l = true) (hl : ks.length < 4294967296) : call E 18 [.agg [.c (.sl 2 nl tt (Gr.repo l)), .c (.sl 3 kn kt (encL ks))], V.i n, .c (.str q), V.i t] [] = some ([VV (valueP (backP l ks n q t)), V.b ((valueP (backP l ks n q t)).k != 0)], []) := by
  have hct : (ctOf [(60, s60)]).ok E := ctOf_cons s60_ok ctOf_nil
  refine call_of (E := E) (sh := sh) (ct := ctOf [(60, s60)]) (na := 4) (m := 0) hct rfl rfl rfl rfl rfl rfl ?_
  rw [t18]
  refine fd_rpost hct (by kernel_rfl) rfl (ranges_post (p := p18) hct (c := b18_0) (gi := 100) (caps := [.ptr 2 0 0 0, .ptr 3 0 0 0, .ptr 4 0 0 0, .ptr 5 0 0 0]) (args := [.yl 4, .ptr 0 0 0 0, .ptr 1 0 0 0, .ptr 2 0 0 0, .ptr 3 0 0 0]) (h0 := boxW nl tt l kn kt ks n q t) (ids := [2, 3, 4, 5]) (by kernel_rfl) (backP l ks n q t) encN rfl (by kernel_rfl) (sq_ok l ks nl tt kn kt n q t) (call100 hs hl) (fun (_ : Unit) => g18_0 0 0 [] false) (fun r _ => valueP r = valueP (backP l ks n q t)) _ ?_ ?_ () rfl rfl)
  · rintro ⟨c, ⟨k, m, s⟩⟩ r _ hi
    right
    refine ⟨x18_0x0 c k m s (k != 0), by simp, ?_, ?_⟩
    · rw [k18_0x0, fd_leaf, ← hi]
      rfl
    · exact (congrArg _ (t18_0 0 0 [] false c k m s)).trans (by rw [rd_leaf])
  · intro _ hi
    rw [← hi]
    exact congrArg p18.fd (k18_0n 0 0 [] false)
theorem s18_ok : CSpecOk E 18 s18 := by
  intro a h cs vals h' he hc
  unfold s18 at he
  split at he <;> simp only [Option.some.injEq, Prod.mk.injEq, reduceCtorEq] at he
  rename_i nl tt xs kn kt ys n q t
  obtain ⟨rfl, rfl, rfl⟩ := he
  simp only [allT, Bool.and_true, Bool.and_eq_true, decide_eq_true_eq] at hc
  obtain ⟨h1, h2, h3, h4⟩ := hc
  obtain ⟨l, rfl⟩ := repo_ex h1
  obtain ⟨ks, rfl⟩ := isL_ex h3
  rw [encL_length] at h4
  rw [Gr.toRepo_repo] at h2
  rw [decL_enc, Gr.toRepo_repo]
  exact f18 l ks nl tt kn kt n q t h2 h4
/-! ## Ever -/
theorem everP_cons (x : Rn) (r : List Rn) (v : Val) : everP (x :: r) v = (if x.v = v ∧ v.k ≠ 0 then [x.c] else []) ++ everP r v := by
  unfold everP
  rw [List.filter_cons]
  by_cases h : x.v = v ∧ v.k ≠ 0
  · rw [if_pos (by simp [h.1, h.2]), if_pos h]; rfl
  · rw [if_neg (by simpa using h), if_neg h]; rfl
theorem f26 (l : List Gr.Cm) (ks : List Nd) (nl : Option Bool) (tt : Bool) (kn : Option Bool) (kt : Bool) (n : Int) (q : List UInt8) (t : Int) (v : Val) (hs : Gr.smallB l = true) (hl : ks.length < 4294967296) : call E 26 [.agg [.c (.sl 2 nl tt (Gr.repo l)), .c (.sl 3 kn kt (encL ks))], V.i n, .c (.str q), V.i t, VV v] [] = some ([.c (.sl 1 none false (ints (everP (backP l ks n q t) v)))], []) := by
  have hct : (ctOf [(60, s60)]).ok E := ctOf_cons s60_ok ctOf_nil
  obtain ⟨k, m, s⟩ := v
  refine call_of (E := E) (sh := sh) (ct := ctOf [(60, s60)]) (na := 5) (m := 0) hct rfl rfl rfl rfl rfl rfl ?_
  rw [t26]
  refine fd_rpost hct (by kernel_rfl) rfl (ranges_post (p := p26) hct (c := b26_0) (gi := 100) (caps := [.ptr 3 0 0 0, .ptr 4 0 0 0, .ptr 5 0 0 0, .ptr 6 0 0 0]) (args := [.yl 4, .ptr 0 0 0 0, .ptr 1 0 0 0, .ptr 2 0 0 0, .ptr 3 0 0 0]) (h0 := boxW nl tt l kn kt ks n q t) (ids := [3, 4, 5, 6]) (by kernel_rfl) (backP l ks n q t) encN rfl (by kernel_rfl) (sq_ok l ks nl tt kn kt n q t) (call100 hs hl) (fun (acc : List Int) => g26_0 k m s (some true) true [] (ints acc) acc.length) (fun r acc => acc ++ everP r ⟨k, m, s⟩ = everP (backP l ks n q t) ⟨k, m, s⟩ ∧ acc.length + r.length ≤ 501) _ ?_ ?_ [] rfl ⟨rfl, by simpa using backP_len l ks n q t⟩)
  · rintro ⟨c, ⟨k1, m1, s1⟩⟩ r acc ⟨hi, hn⟩
    rw [everP_cons] at hi
    rw [List.length_cons] at hn
    left
    have hv := val_eqb ⟨k1, m1, s1⟩ ⟨k, m, s⟩
    dsimp only at hv hi
    have ht : List.take acc.length (ints acc) = ints acc := by rw [← ints_length acc, List.take_length]
    have e : p26.rds b26_0 (g26_0 k m s (some true) true [] (ints acc) acc.length) (p26.rts b26_0 (encN ⟨c, ⟨k1, m1, s1⟩⟩) (g26_0 k m s (some true) true [] (ints acc) acc.length)) = _ := congrArg _ (t26_0 k m s (some true) true [] (ints acc) acc.length c k1 m1 s1)
    rw [e]
    rw [hv]
    by_cases h1 : (⟨k1, m1, s1⟩ : Val) = ⟨k, m, s⟩
    · by_cases h2 : k = 0
      · rw [if_neg (by simp [h2])] at hi
        exact ⟨acc, ⟨by simpa using hi, by omega⟩, by simp [rd_br, rd_leaf, h1, h2]⟩
      · rw [if_pos ⟨h1, h2⟩] at hi
        refine ⟨acc ++ [c], ⟨by simpa using hi, by simp; omega⟩, ?_⟩
        have hb : acc.length + 1 < 4294967296 := by omega
        simp only [rd_br, rd_chk', rd_leaf, h1, h2, hb, ht, decide_true, if_true, bne_iff_ne, ne_eq, not_false_eq_true]
        rw [show [[C.int IntKind.i64 c]] = ints [c] from rfl, ints_append]
        simp
    · rw [if_neg (fun h => h1 h.1)] at hi
      exact ⟨acc, ⟨by simpa using hi, by omega⟩, by simp [rd_br, rd_leaf, h1]⟩
  · rintro acc ⟨hi, _⟩
    have e := k26_0n k m s (some true) true [] (ints acc) acc.length
    have ht : List.take acc.length (ints acc) = ints acc := by rw [← ints_length acc, List.take_length]
    rw [ht] at e
    have e2 : everP [] ⟨k, m, s⟩ = [] := rfl
    rw [e2, List.append_nil] at hi
    rw [← hi]
    exact congrArg p26.fd e
theorem s26_ok : CSpecOk E 26 s26 := by
  intro a h cs vals h' he hc
  unfold s26 at he
  split at he <;> simp only [Option.some.injEq, Prod.mk.injEq, reduceCtorEq] at he
  rename_i nl tt xs kn kt ys n q t k m s
  obtain ⟨rfl, rfl, rfl⟩ := he
  simp only [allT, Bool.and_true, Bool.and_eq_true, decide_eq_true_eq] at hc
  obtain ⟨h1, h2, h3, h4⟩ := hc
  obtain ⟨l, rfl⟩ := repo_ex h1
  obtain ⟨ks, rfl⟩ := isL_ex h3
  rw [encL_length] at h4
  rw [Gr.toRepo_repo] at h2
  rw [decL_enc, Gr.toRepo_repo]
  exact f26 l ks nl tt kn kt n q t ⟨k, m, s⟩ h2 h4
/-! ## Runs -/
theorem stepR_len (out : List Rn) (x : Rn) : (stepR out x).length ≤ out.length + 1 := by
  unfold stepR
  split
  · split
    · rw [List.length_append, List.length_dropLast]; simp
    · simp
  · simp
theorem en_lit (c k m : Int) (s : List UInt8) : [C.int .i64 c, C.int .i64 k, C.int .i64 m, C.str s] = en ⟨c, ⟨k, m, s⟩⟩ := rfl
theorem f21 (l : List Gr.Cm) (ks : List Nd) (nl : Option Bool) (tt : Bool) (kn : Option Bool) (kt : Bool) (n : Int) (q : List UInt8) (t : Int) (hs : Gr.smallB l = true) (hl : ks.length < 4294967296) : call E 21 [.agg [.c (.sl 2 nl tt (Gr.repo l)), .c (.sl 3 kn kt (encL ks))], V.i n, .c (.str q), V.i t] [] = some ([.c (.sl 4 none false (rns (runsP (backP l ks n q t))))], []) := by
  have hct : (ctOf [(60, s60), (63, s63)]).ok E := ctOf_cons s60_ok (ctOf_cons s63_ok ctOf_nil)
  refine call_of (E := E) (sh := sh) (ct := ctOf [(60, s60), (63, s63)]) (na := 4) (m := 0) hct rfl rfl rfl rfl rfl rfl ?_
  rw [t21]
  refine fd_rpost hct (by kernel_rfl) rfl (ranges_post (p := p21) hct (c := b21_0) (gi := 100) (caps := [.ptr 2 0 0 0, .ptr 3 0 0 0, .ptr 4 0 0 0, .ptr 5 0 0 0]) (args := [.yl 4, .ptr 0 0 0 0, .ptr 1 0 0 0, .ptr 2 0 0 0, .ptr 3 0 0 0]) (h0 := boxW nl tt l kn kt ks n q t) (ids := [2, 3, 4, 5]) (by kernel_rfl) (backP l ks n q t) encN rfl (by kernel_rfl) (sq_ok l ks nl tt kn kt n q t) (call100 hs hl) (fun (out : List Rn) => g21_0 (some true) true [] (rns out) out.length) (fun r out => r.foldl stepR out = (backP l ks n q t).foldl stepR [] ∧ out.length + r.length ≤ 501) _ ?_ ?_ [] rfl ⟨rfl, by simpa using backP_len l ks n q t⟩)
  · rintro ⟨c, ⟨k1, m1, s1⟩⟩ r out ⟨hi, hn⟩
    rw [List.foldl_cons] at hi
    rw [List.length_cons] at hn
    have hst := stepR_len out ⟨c, ⟨k1, m1, s1⟩⟩
    left
    refine ⟨stepR out ⟨c, ⟨k1, m1, s1⟩⟩, ⟨hi, by omega⟩, ?_⟩
    have e : p21.rds b21_0 (g21_0 (some true) true [] (rns out) out.length) (p21.rts b21_0 (encN ⟨c, ⟨k1, m1, s1⟩⟩) (g21_0 (some true) true [] (rns out) out.length)) = _ := congrArg _ (t21_0 (some true) true [] (rns out) out.length c k1 m1 s1)
    rw [e]
    have ht : List.take out.length (rns out) = rns out := by rw [← rns_length out, List.take_length]
    have hb : out.length + 1 < 4294967296 := by omega
    rcases List.eq_nil_or_concat out with rfl | ⟨o, y, rfl⟩
    · have w0 : IntKind.wrap .i64 ((([] : List Rn).length : Int) - 1) = -1 := rfl
      rw [w0]
      have e1 : stepR [] ⟨c, ⟨k1, m1, s1⟩⟩ = [⟨c, ⟨k1, m1, s1⟩⟩] := rfl
      rw [e1]
      simp only [rd_br, rd_chk', rd_leaf, show ¬ (0 : Int) ≤ -1 by omega, decide_false, Bool.false_eq_true, if_false, List.length_nil, show (0 + 1 : Nat) < 4294967296 by omega, decide_true, if_true]
      rfl
    · simp only [List.concat_eq_append] at *
      have hlen : (o ++ [y]).length = o.length + 1 := by simp
      have w1 : IntKind.wrap .i64 (((o ++ [y]).length : Int) - 1) = (o.length : Int) := by rw [hlen, wrap_same (by omega) (by omega)]; omega
      have hg : o.length < (o ++ [y]).length := by omega
      have hy : (o ++ [y])[o.length] = y := by simp
      have hv := val_eqb y.v ⟨k1, m1, s1⟩
      have e1 : stepR (o ++ [y]) ⟨c, ⟨k1, m1, s1⟩⟩ = if y.v = ⟨k1, m1, s1⟩ then o ++ [⟨c, ⟨k1, m1, s1⟩⟩] else o ++ [y] ++ [⟨c, ⟨k1, m1, s1⟩⟩] := by simp [stepR]
      rw [e1]
      dsimp only at hv
      have hsk : shOk [Sk.int .i64, Sk.int .i64, Sk.str] [C.int .i64 y.v.k, C.int .i64 y.v.n, C.str y.v.s] = true := rfl
      simp only [hsk, w1, rd_br, rd_chk', rd_leaf, en_lit, Nat.zero_add, rns_length, en_ok, en_ok', isRns_rns, toRns_rns, rns_take, rns_drop, rns_append, rns_snoc', en_c, en_k, en_n, en_s, en_len, en_take, en_take3, en_mk, rns_set, nd_ok, nd_lab, nd_rows, nd_kids, encL_length, isL_enc, decL_enc, wrap_hd, hd_pos, ld_br, ld_chk', ld_leaf, fd_br, fd_chk', fd_leaf, decide_true, decide_eq_true_eq, if_true, Int.toNat_natCast, Int.natCast_nonneg, Int.ofNat_lt, Int.ofNat_le, Bool.false_eq_true, if_false, bne_iff_ne, beq_iff_eq, ne_eq, not_true_eq_false, not_false_eq_true, Bool.not_eq_true', decide_eq_false_iff_not, reduceCtorEq, rows_length, pcs_length, er_ok, er_ok', ep_ok, ep_ok', dr_er, dp_ep, isRows_rows, isPcs_pcs, toRows_rows, toPcs_pcs, rows_take, rows_drop, pcs_take, pcs_drop, rows_append, pcs_append, ints_length, isInts_ints, toInts_ints, ei_i, ei_ok, mk_headD, ints_take, ints_drop, ints_append, ints_snoc, ints_snoc', List.take_length, Nat.zero_add, Nat.le_refl, er_a, er_b, er_k, er_n, er_s, er_v, ep_a, ep_b, ep_hk, ep_hn, ep_hs, ep_wk, ep_wn, ep_ws, rns_getD hg, hy, hg, hv, hb, ht, en_take3, List.headD_cons, List.tail_cons, C.i, C.st, show (1 + 3 : Nat) ≤ 4 by omega]
      by_cases h1 : y.v = ⟨k1, m1, s1⟩
      · rw [if_pos h1, if_pos h1]
        simp
      · rw [if_neg h1, if_neg h1]
        simp
  · rintro out ⟨hi, hn⟩
    rw [List.foldl_nil] at hi
    unfold runsP
    rw [← hi]
    simp only [List.length_nil, Nat.add_zero] at hn
    have e : p21.fd (p21.fkx 0 (x21_0n (some true) true [] (rns out) out.length)) = _ := congrArg _ (k21_0n (some true) true [] (rns out) out.length)
    refine e.trans ?_
    have ht : ∀ a : List Rn, a.length = out.length → List.take out.length (rns a) = rns a := fun a h => by rw [← h, ← rns_length a, List.take_length]
    rcases List.eq_nil_or_concat out with rfl | ⟨o, y, rfl⟩
    · have w0 : IntKind.wrap .i64 ((([] : List Rn).length : Int) - 1) = -1 := rfl
      rw [w0]
      rfl
    · simp only [List.concat_eq_append] at *
      have hlen : (o ++ [y]).length = o.length + 1 := by simp
      have w1 : IntKind.wrap .i64 (((o ++ [y]).length : Int) - 1) = (o.length : Int) := by rw [hlen, wrap_same (by omega) (by omega)]; omega
      have hg : o.length < (o ++ [y]).length := by omega
      have hy : (o ++ [y])[o.length] = y := by simp
      have e1 : dropN (o ++ [y]) = if y.v.k = 0 then o else o ++ [y] := by simp [dropN]
      have ek : List.take 1 (List.drop 1 (en y)) = [.int .i64 y.v.k] := rfl
      rw [e1]
      simp only [w1, Nat.zero_add, rns_length, en_ok, en_ok', isRns_rns, toRns_rns, rns_take, rns_drop, rns_append, rns_snoc', en_c, en_k, en_n, en_s, en_len, en_take, en_take3, en_mk, rns_set, nd_ok, nd_lab, nd_rows, nd_kids, encL_length, isL_enc, decL_enc, wrap_hd, hd_pos, ld_br, ld_chk', ld_leaf, fd_br, fd_chk', fd_leaf, decide_true, decide_eq_true_eq, if_true, Int.toNat_natCast, Int.natCast_nonneg, Int.ofNat_lt, Int.ofNat_le, Bool.false_eq_true, if_false, bne_iff_ne, beq_iff_eq, ne_eq, not_true_eq_false, not_false_eq_true, Bool.not_eq_true', decide_eq_false_iff_not, reduceCtorEq, rows_length, pcs_length, er_ok, er_ok', ep_ok, ep_ok', dr_er, dp_ep, isRows_rows, isPcs_pcs, toRows_rows, toPcs_pcs, rows_take, rows_drop, pcs_take, pcs_drop, rows_append, pcs_append, ints_length, isInts_ints, toInts_ints, ei_i, ei_ok, mk_headD, ints_take, ints_drop, ints_append, ints_snoc, ints_snoc', List.take_length, Nat.zero_add, Nat.le_refl, er_a, er_b, er_k, er_n, er_s, er_v, ep_a, ep_b, ep_hk, ep_hn, ep_hs, ep_wk, ep_wn, ep_ws, rns_getD hg, hy, hg, ek, List.headD_cons, C.i, show (1 + 0 + 1 : Nat) ≤ 4 by omega, Nat.add_zero, show shOk [Sk.int IntKind.i64] [C.int IntKind.i64 y.v.k] = true from rfl, Nat.sub_zero, show o.length ≤ (o ++ [y]).length by omega, show o.length < 4294967296 by omega, show (o ++ [y]).length < 4294967296 by omega]
      by_cases h1 : y.v.k = 0
      · rw [if_pos h1, if_pos h1]
        simp
      · rw [if_neg h1, if_neg h1]
        simp
        rw [List.take_of_length_le (by simp)]
theorem s21_ok : CSpecOk E 21 s21 := by
  intro a h cs vals h' he hc
  unfold s21 at he
  split at he <;> simp only [Option.some.injEq, Prod.mk.injEq, reduceCtorEq] at he
  rename_i nl tt xs kn kt ys n q t
  obtain ⟨rfl, rfl, rfl⟩ := he
  simp only [allT, Bool.and_true, Bool.and_eq_true, decide_eq_true_eq] at hc
  obtain ⟨h1, h2, h3, h4⟩ := hc
  obtain ⟨l, rfl⟩ := repo_ex h1
  obtain ⟨ks, rfl⟩ := isL_ex h3
  rw [encL_length] at h4
  rw [Gr.toRepo_repo] at h2
  rw [decL_enc, Gr.toRepo_repo]
  exact f21 l ks nl tt kn kt n q t h2 h4
theorem runsP_len (l : List Rn) : (runsP l).length ≤ l.length := by
  unfold runsP
  rw [List.length_reverse]
  have h1 : ∀ (l out : List Rn), (l.foldl stepR out).length ≤ out.length + l.length := by
    intro l
    induction l with
    | nil => intro out; simp
    | cons x l ih => intro out; rw [List.foldl_cons, List.length_cons]; have := ih (stepR out x); have := stepR_len out x; omega
  have h2 : ∀ out : List Rn, (dropN out).length ≤ out.length := by
    intro out
    unfold dropN
    split
    · split
      · rw [List.length_dropLast]; omega
      · exact Nat.le_refl _
    · exact Nat.le_refl _
  have := h1 l []
  have := h2 (l.foldl stepR [])
  simp at *; omega
theorem f23 (l : List Gr.Cm) (ks : List Nd) (nl : Option Bool) (tt : Bool) (kn : Option Bool) (kt : Bool) (n : Int) (q : List UInt8) (t : Int) (hs : Gr.smallB l = true) (hl : ks.length < 4294967296) : call E 23 [.agg [.c (.sl 2 nl tt (Gr.repo l)), .c (.sl 3 kn kt (encL ks))], V.i n, .c (.str q), V.i t] [] = some ([V.i (firstRn (runsP (backP l ks n q t)))], []) := by
  have hct : (ctOf [(21, s21)]).ok E := ctOf_cons s21_ok ctOf_nil
  refine call_of (E := E) (sh := sh) (ct := ctOf [(21, s21)]) (na := 4) (m := 0) hct rfl rfl rfl rfl rfl rfl ?_
  rw [t23]
  simp only [Gr.isRepo_repo, Gr.toRepo_repo, hs, isL_enc, decL_enc, encL_length, hl, decide_true]
  have h1 := runsP_len (backP l ks n q t)
  have h2 := backP_len l ks n q t
  generalize runsP (backP l ks n q t) = out at *
  rcases List.eq_nil_or_concat out with rfl | ⟨o, y, rfl⟩
  · have w0 : IntKind.wrap .i64 (((rns ([] : List Rn)).length : Int) - 1) = -1 := rfl
    rw [w0]
    rfl
  · simp only [List.concat_eq_append] at *
    have hlen : (o ++ [y]).length = o.length + 1 := by simp
    have w1 : IntKind.wrap .i64 (((o ++ [y]).length : Int) - 1) = (o.length : Int) := by rw [hlen, wrap_same (by omega) (by omega)]; omega
    have hg : o.length < (o ++ [y]).length := by omega
    have hy : (o ++ [y])[o.length] = y := by simp
    simp only [w1, rns_length, en_ok, en_ok', isRns_rns, toRns_rns, rns_take, rns_drop, rns_append, rns_snoc', en_c, en_k, en_n, en_s, en_len, en_take, en_take3, en_mk, rns_set, nd_ok, nd_lab, nd_rows, nd_kids, encL_length, isL_enc, decL_enc, wrap_hd, hd_pos, ld_br, ld_chk', ld_leaf, fd_br, fd_chk', fd_leaf, decide_true, decide_eq_true_eq, if_true, Int.toNat_natCast, Int.natCast_nonneg, Int.ofNat_lt, Int.ofNat_le, Bool.false_eq_true, if_false, bne_iff_ne, beq_iff_eq, ne_eq, not_true_eq_false, not_false_eq_true, Bool.not_eq_true', decide_eq_false_iff_not, reduceCtorEq, rows_length, pcs_length, er_ok, er_ok', ep_ok, ep_ok', dr_er, dp_ep, isRows_rows, isPcs_pcs, toRows_rows, toPcs_pcs, rows_take, rows_drop, pcs_take, pcs_drop, rows_append, pcs_append, ints_length, isInts_ints, toInts_ints, ei_i, ei_ok, mk_headD, ints_take, ints_drop, ints_append, ints_snoc, ints_snoc', List.take_length, Nat.zero_add, Nat.le_refl, er_a, er_b, er_k, er_n, er_s, er_v, ep_a, ep_b, ep_hk, ep_hn, ep_hs, ep_wk, ep_wn, ep_ws, rns_getD hg, hy, hg]
    have e1 : firstRn (o ++ [y]) = if y.v.k = 0 then 0 else y.c := by simp [firstRn]
    rw [e1]
    by_cases h : y.v.k = 0 <;> simp [h]
theorem s23_ok : CSpecOk E 23 s23 := by
  intro a h cs vals h' he hc
  unfold s23 at he
  split at he <;> simp only [Option.some.injEq, Prod.mk.injEq, reduceCtorEq] at he
  rename_i nl tt xs kn kt ys n q t
  obtain ⟨rfl, rfl, rfl⟩ := he
  simp only [allT, Bool.and_true, Bool.and_eq_true, decide_eq_true_eq] at hc
  obtain ⟨h1, h2, h3, h4⟩ := hc
  obtain ⟨l, rfl⟩ := repo_ex h1
  obtain ⟨ks, rfl⟩ := isL_ex h3
  rw [encL_length] at h4
  rw [Gr.toRepo_repo] at h2
  rw [decL_enc, Gr.toRepo_repo]
  exact f23 l ks nl tt kn kt n q t h2 h4
end Go.Proofs.YtbilmkcdhodenaaDoor

end

/-
  Chapter 31 (search): the reference.
-/
section
namespace Go.Proofs.YtbilmkcdhodenaaDoor
open Go Go.Ev

theorem isP_facts {l : List Gr.Cm} {ks : List Nd} {n : Int} (h : isP l ks n = true) : 1 ≤ n ∧ n ≤ l.length ∧ worldOk l ks = true ∧ ks.length = l.length := by
  simp only [isP, Bool.and_eq_true, decide_eq_true_eq] at h
  exact ⟨h.1.1, h.1.2, h.2, worldOk_len h.2⟩
theorem firstR_mem {l : List Gr.Cm} {n x : Int} (h : x ∈ Gr.firstR l n) : 1 ≤ x ∧ x ≤ l.length := by
  rw [← Gr.first_same] at h; exact firstG_mem h
theorem firstR_len (l : List Gr.Cm) (n : Int) : (Gr.firstR l n).length ≤ 501 := by
  rw [← Gr.first_same]; exact firstG_len l n
theorem int_at {F : List Int} {k : Nat} (hk : k < F.length) : F.getD k 0 = F[k] := by simp [List.getD_eq_getElem?_getD, hk]
section
variable (l : List Gr.Cm) (ks : List Nd) (nl : Option Bool) (tt : Bool) (kn : Option Bool) (kt : Bool) (n : Int) (q : List UInt8) (t : Int) (hs : Gr.smallB l = true) (hl : ks.length < 4294967296) (hf : fewE ks = true)
theorem f19 (hs : Gr.smallB l = true) (hl : ks.length < 4294967296) (hf : fewE ks = true) : call E 19 [.agg [.c (.sl 2 nl tt (Gr.repo l)), .c (.sl 3 kn kt (encL ks))], V.i n, .c (.str q), V.i t] [] = some ([VV (valueR l ks n q t), V.b ((valueR l ks n q t).k != 0)], []) := by
  have hct : (ctOf [(61, s61), (62, s62)]).ok E := ctOf_cons s61_ok (ctOf_cons s62_ok ctOf_nil)
  refine call_of (E := E) (sh := sh) (ct := ctOf [(61, s61), (62, s62)]) (na := 4) (m := 0) hct rfl rfl rfl rfl rfl rfl ?_
  rw [t19]
  simp only [fd_br, fd_chk', fd_leaf, Gr.isRepo_repo, Gr.toRepo_repo, hs, isL_enc, decL_enc, encL_length, hl, hf, decide_true, if_true]
  unfold valueR
  by_cases h : isP l ks n = true
  · obtain ⟨h1, h2, h3, h4⟩ := isP_facts h
    simp only [h, Bool.not_true, Bool.false_eq_true, if_false, if_true, h1, show n ≤ (ks.length : Int) by omega, decide_true]
  · rw [Bool.not_eq_true] at h
    simp only [h, Bool.not_false, if_true, Bool.false_eq_true, if_false]
    rfl
theorem f22 (hs : Gr.smallB l = true) (hl : ks.length < 4294967296) (hf : fewE ks = true) : call E 22 [.agg [.c (.sl 2 nl tt (Gr.repo l)), .c (.sl 3 kn kt (encL ks))], V.i n, .c (.str q), V.i t] [] = some ([.c (.sl 4 none false (rns (runsR l ks n q t)))], []) := by
  have hct : (ctOf [(61, s61), (62, s62), (64, Gr.s64)]).ok E := ctOf_cons s61_ok (ctOf_cons s62_ok (ctOf_cons Gr.s64_ok ctOf_nil))
  refine call_of (E := E) (sh := sh) (ct := ctOf [(61, s61), (62, s62), (64, Gr.s64)]) (na := 4) (m := 0) hct rfl rfl rfl rfl rfl rfl ?_
  rw [t22]
  simp only [fd_br, fd_chk', fd_leaf, Gr.isRepo_repo, Gr.toRepo_repo, hs, isL_enc, decL_enc, encL_length, hl, hf, decide_true, if_true]
  unfold runsR
  by_cases h : isP l ks n = true
  case neg =>
    rw [Bool.not_eq_true] at h
    simp only [h, Bool.not_false, if_true, Bool.false_eq_true, if_false]
    rfl
  obtain ⟨h1, h2, h3, h4⟩ := isP_facts h
  simp only [h, Bool.not_true, Bool.false_eq_true, if_false, if_true, ints_length]
  have hmem : ∀ x ∈ Gr.firstR l n, 1 ≤ x ∧ x ≤ l.length := fun x hx => firstR_mem hx
  have hFl := firstR_len l n
  generalize Gr.firstR l n = F at *
  have w0 : IntKind.wrap .i64 ((F.length : Int) - 1) = (F.length : Int) - 1 - ((0 : Nat) : Int) := by rw [wrap_same (by omega) (by omega)]; omega
  rw [w0]
  refine fd_post hct (by kernel_rfl) rfl (list_post (p := p22) hct (b := b22_0) F.length (fun k (s : List Rn × Val) => s22_0 nl tt (Gr.repo l) kn kt (encL ks) q t none false (ints F) s.1.length ((F.length : Int) - 1 - k) (rns s.1) s.2.k s.2.n s.2.s) (fun k s => s.1 ++ runG (valR2 ks q t) s.2 (F.reverse.drop k) = runG (valR2 ks q t) Val.none F.reverse ∧ s.1.length ≤ k) _ ?_ ?_ 0 (Nat.zero_le _) ([], Val.none) ⟨rfl, by simp⟩)
  · rintro k ⟨acc, was⟩ hk ⟨hi, hn⟩
    dsimp only at hi hn
    have hkr : k < F.reverse.length := by simpa using hk
    rw [List.drop_eq_getElem_cons hkr, List.getElem_reverse, runG] at hi
    have hj : F.length - 1 - k < F.length := by omega
    have e3 : (F.length : Int) - 1 - k = ((F.length - 1 - k : Nat) : Int) := by omega
    have hF := hmem F[F.length - 1 - k] (List.getElem_mem hj)
    have w : IntKind.wrap .i64 (((F.length - 1 - k : Nat) : Int) - 1) = (F.length : Int) - 1 - ((k + 1 : Nat) : Int) := by rw [wrap_same (by omega) (by omega)]; omega
    have ht : List.take acc.length (rns acc) = rns acc := by rw [← rns_length acc, List.take_length]
    have hv := val_eqb (valR2 ks q t F[F.length - 1 - k]) was
    have hn2 : acc.length + 1 < 4294967296 := by omega
    dsimp only
    rw [t22_0, e3]
    simp only [rns_length, en_ok, en_ok', isRns_rns, toRns_rns, rns_take, rns_drop, rns_append, rns_snoc', en_c, en_k, en_n, en_s, en_len, en_take, en_take3, en_mk, rns_set, nd_ok, nd_lab, nd_rows, nd_kids, encL_length, isL_enc, decL_enc, wrap_hd, hd_pos, ld_br, ld_chk', ld_leaf, fd_br, fd_chk', fd_leaf, decide_true, decide_eq_true_eq, if_true, Int.toNat_natCast, Int.natCast_nonneg, Int.ofNat_lt, Int.ofNat_le, Bool.false_eq_true, if_false, bne_iff_ne, beq_iff_eq, ne_eq, not_true_eq_false, not_false_eq_true, Bool.not_eq_true', decide_eq_false_iff_not, reduceCtorEq, rows_length, pcs_length, er_ok, er_ok', ep_ok, ep_ok', dr_er, dp_ep, isRows_rows, isPcs_pcs, toRows_rows, toPcs_pcs, rows_take, rows_drop, pcs_take, pcs_drop, rows_append, pcs_append, ints_length, isInts_ints, toInts_ints, ei_i, ei_ok, mk_headD, ints_take, ints_drop, ints_append, ints_snoc, ints_snoc', List.take_length, Nat.zero_add, Nat.le_refl, er_a, er_b, er_k, er_n, er_s, er_v, ep_a, ep_b, ep_hk, ep_hn, ep_hs, ep_wk, ep_wn, ep_ws, ints_getD hj, int_at hj, hj, w, hF.1, show F[F.length - 1 - k] ≤ (ks.length : Int) by omega, hl, hf, hv, hn2, ht]
    by_cases c : valR2 ks q t F[F.length - 1 - k] = was
    · rw [if_pos c] at hi
      exact .inl ⟨(acc, valR2 ks q t F[F.length - 1 - k]), ⟨hi, by dsimp only; omega⟩, by rw [if_neg (by simp [c])]⟩
    · rw [if_neg c] at hi
      refine .inl ⟨(acc ++ [⟨F[F.length - 1 - k], valR2 ks q t F[F.length - 1 - k]⟩], valR2 ks q t F[F.length - 1 - k]), ⟨by simpa using hi, by simp; omega⟩, ?_⟩
      rw [if_pos (by simp [c])]
      have eh : ∀ (x : Int) (d : C), (Sk.int IntKind.i64).mk ((ei x).headD d) = C.int .i64 x := fun _ _ => rfl
      simp only [eh, en_lit, rns_snoc']
      simp
  · rintro ⟨acc, was⟩ ⟨hi, hn⟩
    dsimp only at hi hn ⊢
    have hz : ∀ w, runG (valR2 ks q t) w (F.reverse.drop F.length) = [] := fun w => by
      rw [List.drop_of_length_le (by simp)]; rfl
    rw [hz, List.append_nil] at hi
    have e : (F.length : Int) - 1 - F.length = -1 := by omega
    have ht : List.take acc.length (rns acc) = rns acc := by rw [← rns_length acc, List.take_length]
    rw [t22_0, e]
    exact ⟨x22_0x0 nl tt (Gr.repo l) kn kt (encL ks) q t none false (ints F) acc.length (-1) (rns acc) was.k was.n was.s, by simp, by rw [k22_0x0, fd_leaf, ht, hi], by simp only [rns_length, en_ok, en_ok', isRns_rns, toRns_rns, rns_take, rns_drop, rns_append, rns_snoc', en_c, en_k, en_n, en_s, en_len, en_take, en_take3, en_mk, rns_set, nd_ok, nd_lab, nd_rows, nd_kids, encL_length, isL_enc, decL_enc, wrap_hd, hd_pos, ld_br, ld_chk', ld_leaf, fd_br, fd_chk', fd_leaf, decide_true, decide_eq_true_eq, if_true, Int.toNat_natCast, Int.natCast_nonneg, Int.ofNat_lt, Int.ofNat_le, Bool.false_eq_true, if_false, bne_iff_ne, beq_iff_eq, ne_eq, not_true_eq_false, not_false_eq_true, Bool.not_eq_true', decide_eq_false_iff_not, reduceCtorEq, rows_length, pcs_length, er_ok, er_ok', ep_ok, ep_ok', dr_er, dp_ep, isRows_rows, isPcs_pcs, toRows_rows, toPcs_pcs, rows_take, rows_drop, pcs_take, pcs_drop, rows_append, pcs_append, ints_length, isInts_ints, toInts_ints, ei_i, ei_ok, mk_headD, ints_take, ints_drop, ints_append, ints_snoc, ints_snoc', List.take_length, Nat.zero_add, Nat.le_refl, er_a, er_b, er_k, er_n, er_s, er_v, ep_a, ep_b, ep_hk, ep_hn, ep_hs, ep_wk, ep_wn, ep_ws, show ¬ (0 : Int) ≤ -1 by omega]⟩
theorem f24 (hs : Gr.smallB l = true) (hl : ks.length < 4294967296) (hf : fewE ks = true) (s19_ok : CSpecOk E 19 s19) : call E 24 [.agg [.c (.sl 2 nl tt (Gr.repo l)), .c (.sl 3 kn kt (encL ks))], V.i n, .c (.str q), V.i t] [] = some ([V.i (firstR2 l ks n q t)], []) := by
  have hct : (ctOf [(19, s19), (62, s62), (64, Gr.s64)]).ok E := ctOf_cons s19_ok (ctOf_cons s62_ok (ctOf_cons Gr.s64_ok ctOf_nil))
  refine call_of (E := E) (sh := sh) (ct := ctOf [(19, s19), (62, s62), (64, Gr.s64)]) (na := 4) (m := 0) hct rfl rfl rfl rfl rfl rfl ?_
  rw [t24]
  simp only [fd_br, fd_chk', fd_leaf, Gr.isRepo_repo, Gr.toRepo_repo, hs, isL_enc, decL_enc, encL_length, hl, hf, decide_true, if_true]
  unfold firstR2
  by_cases h : (valueR l ks n q t).k = 0
  · simp only [h, if_true]
    rfl
  have hp : isP l ks n = true := by
    cases hc : isP l ks n with
    | true => rfl
    | false => exact absurd (by unfold valueR; rw [hc]; rfl) h
  obtain ⟨h1, h2, h3, h4⟩ := isP_facts hp
  simp only [h, Bool.not_eq_true', bne_eq_false_iff_eq, if_false]
  have hmem : ∀ x ∈ Gr.firstR l n, 1 ≤ x ∧ x ≤ l.length := fun x hx => firstR_mem hx
  have hFl := firstR_len l n
  generalize Gr.firstR l n = F at *
  generalize valueR l ks n q t = v at *
  refine fd_post hct (by kernel_rfl) rfl (list_post (p := p24) hct (b := b24_0) F.length (fun k (a : Int) => s24_0 nl tt (Gr.repo l) kn kt (encL ks) a q t none false (ints F) k v.k v.n v.s) (fun k a => sinceR (valR2 ks q t) v a (F.drop k) = sinceR (valR2 ks q t) v n F) _ ?_ ?_ 0 (Nat.zero_le _) n rfl)
  · rintro k a hk hi
    rw [List.drop_eq_getElem_cons hk, sinceR] at hi
    have hF := hmem F[k] (List.getElem_mem hk)
    have hv := val_eqb (valR2 ks q t F[k]) v
    rw [t24_0]
    simp only [rns_length, en_ok, en_ok', isRns_rns, toRns_rns, rns_take, rns_drop, rns_append, rns_snoc', en_c, en_k, en_n, en_s, en_len, en_take, en_take3, en_mk, rns_set, nd_ok, nd_lab, nd_rows, nd_kids, encL_length, isL_enc, decL_enc, wrap_hd, hd_pos, ld_br, ld_chk', ld_leaf, fd_br, fd_chk', fd_leaf, decide_true, decide_eq_true_eq, if_true, Int.toNat_natCast, Int.natCast_nonneg, Int.ofNat_lt, Int.ofNat_le, Bool.false_eq_true, if_false, bne_iff_ne, beq_iff_eq, ne_eq, not_true_eq_false, not_false_eq_true, Bool.not_eq_true', decide_eq_false_iff_not, reduceCtorEq, rows_length, pcs_length, er_ok, er_ok', ep_ok, ep_ok', dr_er, dp_ep, isRows_rows, isPcs_pcs, toRows_rows, toPcs_pcs, rows_take, rows_drop, pcs_take, pcs_drop, rows_append, pcs_append, ints_length, isInts_ints, toInts_ints, ei_i, ei_ok, mk_headD, ints_take, ints_drop, ints_append, ints_snoc, ints_snoc', List.take_length, Nat.zero_add, Nat.le_refl, er_a, er_b, er_k, er_n, er_s, er_v, ep_a, ep_b, ep_hk, ep_hn, ep_hs, ep_wk, ep_wn, ep_ws, ints_getD hk, int_at hk, hk, hF.1, show F[k] ≤ (ks.length : Int) by omega, hl, hf, hv, wrap_succ (show k < 9223372036854775807 by omega)]
    by_cases c : valR2 ks q t F[k] = v
    · rw [if_pos c] at hi
      exact .inl ⟨F[k], hi, by rw [if_pos c]⟩
    · rw [if_neg c] at hi
      exact .inr ⟨x24_0x0 nl tt (Gr.repo l) kn kt (encL ks) a q t none false (ints F) k v.k v.n v.s, by simp, by rw [k24_0x0, fd_leaf, hi], by rw [if_neg c]⟩
  · rintro a hi
    rw [List.drop_length, sinceR] at hi
    rw [t24_0]
    exact ⟨x24_0x0 nl tt (Gr.repo l) kn kt (encL ks) a q t none false (ints F) F.length v.k v.n v.s, by simp, by rw [k24_0x0, fd_leaf, hi], by simp only [rns_length, en_ok, en_ok', isRns_rns, toRns_rns, rns_take, rns_drop, rns_append, rns_snoc', en_c, en_k, en_n, en_s, en_len, en_take, en_take3, en_mk, rns_set, nd_ok, nd_lab, nd_rows, nd_kids, encL_length, isL_enc, decL_enc, wrap_hd, hd_pos, ld_br, ld_chk', ld_leaf, fd_br, fd_chk', fd_leaf, decide_true, decide_eq_true_eq, if_true, Int.toNat_natCast, Int.natCast_nonneg, Int.ofNat_lt, Int.ofNat_le, Bool.false_eq_true, if_false, bne_iff_ne, beq_iff_eq, ne_eq, not_true_eq_false, not_false_eq_true, Bool.not_eq_true', decide_eq_false_iff_not, reduceCtorEq, rows_length, pcs_length, er_ok, er_ok', ep_ok, ep_ok', dr_er, dp_ep, isRows_rows, isPcs_pcs, toRows_rows, toPcs_pcs, rows_take, rows_drop, pcs_take, pcs_drop, rows_append, pcs_append, ints_length, isInts_ints, toInts_ints, ei_i, ei_ok, mk_headD, ints_take, ints_drop, ints_append, ints_snoc, ints_snoc', List.take_length, Nat.zero_add, Nat.le_refl, er_a, er_b, er_k, er_n, er_s, er_v, ep_a, ep_b, ep_hk, ep_hn, ep_hs, ep_wk, ep_wn, ep_ws, Int.lt_irrefl]⟩
theorem f27 (v : Val) (hs : Gr.smallB l = true) (hl : ks.length < 4294967296) (hf : fewE ks = true) : call E 27 [.agg [.c (.sl 2 nl tt (Gr.repo l)), .c (.sl 3 kn kt (encL ks))], V.i n, .c (.str q), V.i t, VV v] [] = some ([.c (.sl 1 none false (ints (everR l ks n q t v)))], []) := by
  have hct : (ctOf [(61, s61), (62, s62), (64, Gr.s64)]).ok E := ctOf_cons s61_ok (ctOf_cons s62_ok (ctOf_cons Gr.s64_ok ctOf_nil))
  obtain ⟨k0, m0, s0⟩ := v
  refine call_of (E := E) (sh := sh) (ct := ctOf [(61, s61), (62, s62), (64, Gr.s64)]) (na := 5) (m := 0) hct rfl rfl rfl rfl rfl rfl ?_
  rw [t27]
  simp only [fd_br, fd_chk', fd_leaf, Gr.isRepo_repo, Gr.toRepo_repo, hs, isL_enc, decL_enc, encL_length, hl, hf, decide_true, if_true]
  unfold everR
  by_cases h : isP l ks n = true
  case neg =>
    rw [Bool.not_eq_true] at h
    simp only [h, Bool.not_false, if_true, Bool.false_eq_true, if_false, false_and]
    rfl
  obtain ⟨h1, h2, h3, h4⟩ := isP_facts h
  by_cases hk0 : k0 = 0
  · simp only [h, hk0, Bool.not_true, Bool.false_eq_true, if_false, beq_self_eq_true, if_true, ne_eq, not_true_eq_false, and_false]
    rfl
  simp only [h, hk0, Bool.not_true, Bool.false_eq_true, if_false, beq_iff_eq, if_true, ne_eq, not_false_eq_true, and_self]
  have hmem : ∀ x ∈ Gr.firstR l n, 1 ≤ x ∧ x ≤ l.length := fun x hx => firstR_mem hx
  have hFl := firstR_len l n
  generalize Gr.firstR l n = F at *
  refine fd_post hct (by kernel_rfl) rfl (list_post (p := p27) hct (b := b27_0) F.length (fun k (acc : List Int) => s27_0 nl tt (Gr.repo l) kn kt (encL ks) q t k0 m0 s0 none false (ints F) acc.length k (ints acc)) (fun k acc => acc ++ (F.drop k).filter (fun k => decide (valR2 ks q t k = ⟨k0, m0, s0⟩)) = F.filter (fun k => decide (valR2 ks q t k = ⟨k0, m0, s0⟩)) ∧ acc.length ≤ k) _ ?_ ?_ 0 (Nat.zero_le _) [] ⟨rfl, by simp⟩)
  · rintro k acc hk ⟨hi, hn⟩
    rw [List.drop_eq_getElem_cons hk, List.filter_cons] at hi
    have hF := hmem F[k] (List.getElem_mem hk)
    have hv := val_eqb (valR2 ks q t F[k]) ⟨k0, m0, s0⟩
    dsimp only at hv
    have ht : List.take acc.length (ints acc) = ints acc := by rw [← ints_length acc, List.take_length]
    have hn2 : acc.length + 1 < 4294967296 := by omega
    rw [t27_0]
    simp only [rns_length, en_ok, en_ok', isRns_rns, toRns_rns, rns_take, rns_drop, rns_append, rns_snoc', en_c, en_k, en_n, en_s, en_len, en_take, en_take3, en_mk, rns_set, nd_ok, nd_lab, nd_rows, nd_kids, encL_length, isL_enc, decL_enc, wrap_hd, hd_pos, ld_br, ld_chk', ld_leaf, fd_br, fd_chk', fd_leaf, decide_true, decide_eq_true_eq, if_true, Int.toNat_natCast, Int.natCast_nonneg, Int.ofNat_lt, Int.ofNat_le, Bool.false_eq_true, if_false, bne_iff_ne, beq_iff_eq, ne_eq, not_true_eq_false, not_false_eq_true, Bool.not_eq_true', decide_eq_false_iff_not, reduceCtorEq, rows_length, pcs_length, er_ok, er_ok', ep_ok, ep_ok', dr_er, dp_ep, isRows_rows, isPcs_pcs, toRows_rows, toPcs_pcs, rows_take, rows_drop, pcs_take, pcs_drop, rows_append, pcs_append, ints_length, isInts_ints, toInts_ints, ei_i, ei_ok, mk_headD, ints_take, ints_drop, ints_append, ints_snoc, ints_snoc', List.take_length, Nat.zero_add, Nat.le_refl, er_a, er_b, er_k, er_n, er_s, er_v, ep_a, ep_b, ep_hk, ep_hn, ep_hs, ep_wk, ep_wn, ep_ws, ints_getD hk, int_at hk, hk, hF.1, show F[k] ≤ (ks.length : Int) by omega, hl, hf, hv, hn2, ht, wrap_succ (show k < 9223372036854775807 by omega)]
    by_cases c : valR2 ks q t F[k] = ⟨k0, m0, s0⟩
    · rw [if_pos (by simpa using c)] at hi
      refine .inl ⟨acc ++ [F[k]], ⟨by simpa using hi, by simp; omega⟩, ?_⟩
      rw [if_pos c]
      simp
    · rw [if_neg (by simpa using c)] at hi
      exact .inl ⟨acc, ⟨hi, by omega⟩, by rw [if_neg c]⟩
  · rintro acc ⟨hi, hn⟩
    rw [List.drop_length, List.filter_nil, List.append_nil] at hi
    have ht : List.take acc.length (ints acc) = ints acc := by rw [← ints_length acc, List.take_length]
    rw [t27_0]
    exact ⟨x27_0x0 nl tt (Gr.repo l) kn kt (encL ks) q t k0 m0 s0 none false (ints F) acc.length F.length (ints acc), by simp, by rw [k27_0x0, fd_leaf, ht, hi], by simp only [rns_length, en_ok, en_ok', isRns_rns, toRns_rns, rns_take, rns_drop, rns_append, rns_snoc', en_c, en_k, en_n, en_s, en_len, en_take, en_take3, en_mk, rns_set, nd_ok, nd_lab, nd_rows, nd_kids, encL_length, isL_enc, decL_enc, wrap_hd, hd_pos, ld_br, ld_chk', ld_leaf, fd_br, fd_chk', fd_leaf, decide_true, decide_eq_true_eq, if_true, Int.toNat_natCast, Int.natCast_nonneg, Int.ofNat_lt, Int.ofNat_le, Bool.false_eq_true, if_false, bne_iff_ne, beq_iff_eq, ne_eq, not_true_eq_false, not_false_eq_true, Bool.not_eq_true', decide_eq_false_iff_not, reduceCtorEq, rows_length, pcs_length, er_ok, er_ok', ep_ok, ep_ok', dr_er, dp_ep, isRows_rows, isPcs_pcs, toRows_rows, toPcs_pcs, rows_take, rows_drop, pcs_take, pcs_drop, rows_append, pcs_append, ints_length, isInts_ints, toInts_ints, ei_i, ei_ok, mk_headD, ints_take, ints_drop, ints_append, ints_snoc, ints_snoc', List.take_length, Nat.zero_add, Nat.le_refl, er_a, er_b, er_k, er_n, er_s, er_v, ep_a, ep_b, ep_hk, ep_hn, ep_hs, ep_wk, ep_wn, ep_ws, Int.lt_irrefl]⟩
end
theorem s19_ok : CSpecOk E 19 s19 := by
  intro a h cs vals h' he hc
  unfold s19 at he
  split at he <;> simp only [Option.some.injEq, Prod.mk.injEq, reduceCtorEq] at he
  rename_i nl tt xs kn kt ys n q t
  obtain ⟨rfl, rfl, rfl⟩ := he
  simp only [allT, Bool.and_true, Bool.and_eq_true, decide_eq_true_eq] at hc
  obtain ⟨h1, h2, h3, h4, h5⟩ := hc
  obtain ⟨l, rfl⟩ := repo_ex h1
  obtain ⟨ks, rfl⟩ := isL_ex h3
  rw [encL_length] at h4
  rw [Gr.toRepo_repo] at h2
  rw [decL_enc] at h5
  rw [decL_enc, Gr.toRepo_repo]
  exact f19 l ks nl tt kn kt n q t h2 h4 h5
theorem s22_ok : CSpecOk E 22 s22 := by
  intro a h cs vals h' he hc
  unfold s22 at he
  split at he <;> simp only [Option.some.injEq, Prod.mk.injEq, reduceCtorEq] at he
  rename_i nl tt xs kn kt ys n q t
  obtain ⟨rfl, rfl, rfl⟩ := he
  simp only [allT, Bool.and_true, Bool.and_eq_true, decide_eq_true_eq] at hc
  obtain ⟨h1, h2, h3, h4, h5⟩ := hc
  obtain ⟨l, rfl⟩ := repo_ex h1
  obtain ⟨ks, rfl⟩ := isL_ex h3
  rw [encL_length] at h4
  rw [Gr.toRepo_repo] at h2
  rw [decL_enc] at h5
  rw [decL_enc, Gr.toRepo_repo]
  exact f22 l ks nl tt kn kt n q t h2 h4 h5
theorem s24_ok : CSpecOk E 24 s24 := by
  intro a h cs vals h' he hc
  unfold s24 at he
  split at he <;> simp only [Option.some.injEq, Prod.mk.injEq, reduceCtorEq] at he
  rename_i nl tt xs kn kt ys n q t
  obtain ⟨rfl, rfl, rfl⟩ := he
  simp only [allT, Bool.and_true, Bool.and_eq_true, decide_eq_true_eq] at hc
  obtain ⟨h1, h2, h3, h4, h5⟩ := hc
  obtain ⟨l, rfl⟩ := repo_ex h1
  obtain ⟨ks, rfl⟩ := isL_ex h3
  rw [encL_length] at h4
  rw [Gr.toRepo_repo] at h2
  rw [decL_enc] at h5
  rw [decL_enc, Gr.toRepo_repo]
  exact f24 l ks nl tt kn kt n q t h2 h4 h5 s19_ok
theorem s27_ok : CSpecOk E 27 s27 := by
  intro a h cs vals h' he hc
  unfold s27 at he
  split at he <;> simp only [Option.some.injEq, Prod.mk.injEq, reduceCtorEq] at he
  rename_i nl tt xs kn kt ys n q t k m s
  obtain ⟨rfl, rfl, rfl⟩ := he
  simp only [allT, Bool.and_true, Bool.and_eq_true, decide_eq_true_eq] at hc
  obtain ⟨h1, h2, h3, h4, h5⟩ := hc
  obtain ⟨l, rfl⟩ := repo_ex h1
  obtain ⟨ks, rfl⟩ := isL_ex h3
  rw [encL_length] at h4
  rw [Gr.toRepo_repo] at h2
  rw [decL_enc] at h5
  rw [decL_enc, Gr.toRepo_repo]
  exact f27 l ks nl tt kn kt n q t ⟨k, m, s⟩ h2 h4 h5
end Go.Proofs.YtbilmkcdhodenaaDoor

end
