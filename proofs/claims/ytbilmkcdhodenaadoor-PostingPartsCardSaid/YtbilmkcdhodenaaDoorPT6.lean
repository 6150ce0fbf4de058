/-
  Chapter 13 (posting): trees of the laws, written by a program.
-/
import Derived.Test.YtbilmkcdhodenaaDoorPT5
set_option linter.all false
set_option linter.unusedSimpArgs false
set_option linter.unusedVariables false
section
namespace Go.Proofs.YtbilmkcdhodenaaDoor
open Go Go.Ev
set_option pp.deepTerms true
set_option pp.maxSteps 1000000
set_option pp.funBinderTypes true
set_option pp.coercions.types true
def s38 : CSpec := fun a h => match a, h with
  | [.c (.sl 3 nl tt xs)], [] => some ([isPsts xs], [V.b (fewP (toPsts xs))], [])
  | _, _ => none
def s39 : CSpec := fun a h => match a, h with
  | [], [] => some ([], [V.b true], [])
  | _, _ => none
def s40 : CSpec := fun a h => match a, h with
  | [.c (.sl 3 nl tt xs), .c (.sl 3 nl2 t2 ys)], [] => some ([isPsts xs, isPsts ys, decide (xs.length + ys.length < 4294967296)], [.c (.sl 3 none false (psts (addP (toPsts xs) (toPsts ys)).1)), V.i (addP (toPsts xs) (toPsts ys)).2], [])
  | _, _ => none
def s41 : CSpec := s40
def s42 : CSpec := fun a h => match a, h with
  | [.c (.sl 3 nl tt xs), .c (.sl 3 nl2 t2 ys)], [] => some ([isPsts xs, isPsts ys, decide (xs.length < 4294967296)], [V.b (decide (toPsts xs = toPsts ys))], [])
  | _, _ => none
def s44 : CSpec := s43
def isChs (xs : List (List C)) : Bool := xs.all fun c => shOk [.str, .sl 5, .sl 5] c && isRows ((c.tail.headD .pnil).xs) && isRows ((c.tail.tail.headD .pnil).xs)
def dCh (c : List C) : Ch := ⟨(c.headD .pnil).st, toRows (c.tail.headD .pnil).xs, toRows (c.tail.tail.headD .pnil).xs⟩
def toChs (xs : List (List C)) : List Ch := xs.map dCh
def ofC (l : List Ch) (n : Int) : List Pst × Int := ofP (l.map Ch.chg) n
def s48 : CSpec := fun a h => match a, h with
  | [.c (.sl 3 nl tt xs), .c (.int .i64 n)], [] => some ([isChs xs, decide (xs.length < 4294967290)], [.c (.sl 3 none false (psts (ofC (toChs xs) n).1)), V.i (ofC (toChs xs) n).2], [])
  | _, _ => none
def s49 : CSpec := s48
def s51 : CSpec := fun a h => match a, h with
  | [.c (.sl 3 nl tt xs), .c (.str q)], [] => some ([isPsts xs, decide (xs.length < 4294967290), decide (nl ≠ some true ∨ xs = [])], [.c (.sl 3 none false (psts (underP (toPsts xs) q)))], [])
  | _, _ => none
def s52 : CSpec := fun a h => match a, h with
  | [.c (.sl 3 nl tt xs), .c (.str q)], [] => some ([isPsts xs, decide (xs.length < 4294967290)], [.c (.sl 3 none false (psts (underP (toPsts xs) q)))], [])
  | _, _ => none
def s53 : CSpec := fun a h => match a, h with
  | [.c (.sl 3 nl tt xs), .c (.str q), .c (.sl 1 nl2 t2 ys)], [] => some ([isPsts xs, isInts ys, decide (xs.length < 4294967290), decide (nl ≠ some true ∨ xs = []), decide (ys.length < 4294967290)], [.c (.sl 3 none false (psts (onP (toPsts xs) q (toInts ys))))], [])
  | _, _ => none
def s54 : CSpec := fun a h => match a, h with
  | [.c (.sl 3 nl tt xs), .c (.str q), .c (.sl 1 nl2 t2 ys)], [] => some ([isPsts xs, isInts ys, decide (xs.length < 1000), decide (ys.length < 1000)], [.c (.sl 3 none false (psts (onP (toPsts xs) q (toInts ys))))], [])
  | _, _ => none
def s46 : CSpec := s45
abbrev ctL : CT := ctOf [(38, s38), (39, s39), (40, s40), (41, s41), (42, s42), (43, s43), (44, s44), (45, s45), (46, s46), (47, s47), (48, s48), (49, s49), (50, s50), (51, s51), (52, s52), (53, s53), (54, s54)]
noncomputable abbrev p10 : Par := par E sh ctL 10 3 0
theorem t10 (xs : List (List C)) (ys : List (List C)) (k : Int) : p10.ft ([V.c (C.sl 3 none false xs), V.c (C.sl 3 none false ys), V.i k]) ([]) = (Tr.chk (isPsts xs) (Tr.br (!fewP (toPsts xs)) (Tr.leaf (R.out [V.c (C.bool true)] [])) (Tr.chk (isPsts ys) (Tr.br (!fewP (toPsts ys)) (Tr.leaf (R.out [V.c (C.bool true)] [])) (Tr.chk (isPsts xs) (Tr.chk (isPsts ys) (Tr.chk (decide (xs.length + ys.length < 4294967296)) (Tr.chk (isPsts xs) (Tr.chk (isPsts ys) (Tr.chk (decide (xs.length + ys.length < 4294967296)) (Tr.chk (isPsts (psts (addP (toPsts xs) (toPsts ys)).fst)) (Tr.chk (isPsts (psts (addP (toPsts xs) (toPsts ys)).fst)) (Tr.chk (decide ((psts (addP (toPsts xs) (toPsts ys)).fst).length < 4294967296)) (Tr.br (decide (toPsts (psts (addP (toPsts xs) (toPsts ys)).fst) = toPsts (psts (addP (toPsts xs) (toPsts ys)).fst))) (Tr.br ((addP (toPsts xs) (toPsts ys)).snd == (addP (toPsts xs) (toPsts ys)).snd) (Tr.chk (isPsts xs) (Tr.chk (decide (xs.length < 4294967296)) (Tr.chk (isPsts xs) (Tr.chk (decide (xs.length < 4294967296)) (Tr.br (checkP (toPsts xs) == checkP (toPsts xs)) (Tr.br (wordP k == wordP k) (Tr.leaf (R.out [V.c (C.bool true)] [])) (Tr.leaf (R.out [V.c (C.bool false)] []))) (Tr.leaf (R.out [V.c (C.bool false)] []))))))) (Tr.leaf (R.out [V.c (C.bool false)] []))) (Tr.leaf (R.out [V.c (C.bool false)] [])))))))))))))))) := by kernel_rfl
noncomputable abbrev p11 : Par := par E sh ctL 11 3 0
abbrev s11_0 (xs : List (List C)) (ys : List (List C)) (q : List UInt8) (nl0 : Option Bool) (t0 : Bool) (nl1 : Option Bool) (t1 : Bool) (nl7 : Option Bool) (t7 : Bool) (xs7 : List (List C)) (nl11 : Option Bool) (t11 : Bool) (xs11 : List (List C)) (nl12 : Option Bool) (t12 : Bool) (xs12 : List (List C)) (nl13 : Option Bool) (t13 : Bool) (xs13 : List (List C)) (i14 : Int) : Fr × Hp := ([(0, V.c (C.sl 3 nl0 t0 xs)), (1, V.c (C.sl 3 nl1 t1 ys)), (2, V.c (C.str q)), (7, V.c (C.sl 3 nl7 t7 xs7)), (11, V.c (C.sl 3 nl11 t11 xs11)), (12, V.c (C.sl 3 nl12 t12 xs12)), (13, V.c (C.sl 3 nl13 t13 xs13)), (14, V.c (C.int IntKind.i64 i14))], [])
noncomputable abbrev b11_0 : Code := loopAt (codeOf p11.E p11.g) 0
abbrev s11_0_0 (xs : List (List C)) (ys : List (List C)) (q : List UInt8) (nl0 : Option Bool) (t0 : Bool) (nl1 : Option Bool) (t1 : Bool) (nl7 : Option Bool) (t7 : Bool) (xs7 : List (List C)) (nl11 : Option Bool) (t11 : Bool) (xs11 : List (List C)) (nl12 : Option Bool) (t12 : Bool) (xs12 : List (List C)) (nl13 : Option Bool) (t13 : Bool) (xs13 : List (List C)) (i14 : Int) (b15 : Bool) (i16 : Int) : Fr × Hp := ([(0, V.c (C.sl 3 nl0 t0 xs)), (1, V.c (C.sl 3 nl1 t1 ys)), (2, V.c (C.str q)), (7, V.c (C.sl 3 nl7 t7 xs7)), (11, V.c (C.sl 3 nl11 t11 xs11)), (12, V.c (C.sl 3 nl12 t12 xs12)), (13, V.c (C.sl 3 nl13 t13 xs13)), (14, V.c (C.int IntKind.i64 i14)), (15, V.c (C.bool b15)), (16, V.c (C.int IntKind.i64 i16))], [])
noncomputable abbrev b11_0_0 : Code := loopAt b11_0 0
abbrev x11_0_0x0 (xs : List (List C)) (ys : List (List C)) (q : List UInt8) (nl0 : Option Bool) (t0 : Bool) (nl1 : Option Bool) (t1 : Bool) (nl7 : Option Bool) (t7 : Bool) (xs7 : List (List C)) (nl11 : Option Bool) (t11 : Bool) (xs11 : List (List C)) (nl12 : Option Bool) (t12 : Bool) (xs12 : List (List C)) (nl13 : Option Bool) (t13 : Bool) (xs13 : List (List C)) (i14 : Int) (b15 : Bool) (i16 : Int) : Ex × Fr × Hp := (Ex.exit 2, [(0, V.c (C.sl 3 nl0 t0 xs)), (1, V.c (C.sl 3 nl1 t1 ys)), (2, V.c (C.str q)), (7, V.c (C.sl 3 nl7 t7 xs7)), (11, V.c (C.sl 3 nl11 t11 xs11)), (12, V.c (C.sl 3 nl12 t12 xs12)), (13, V.c (C.sl 3 nl13 t13 xs13)), (14, V.c (C.int IntKind.i64 i14)), (15, V.c (C.bool b15)), (16, V.c (C.int IntKind.i64 i16)), (79, V.c (C.bool false))], [])
abbrev s11_0_1 (xs : List (List C)) (ys : List (List C)) (q : List UInt8) (nl0 : Option Bool) (t0 : Bool) (nl1 : Option Bool) (t1 : Bool) (nl7 : Option Bool) (t7 : Bool) (xs7 : List (List C)) (nl11 : Option Bool) (t11 : Bool) (xs11 : List (List C)) (nl12 : Option Bool) (t12 : Bool) (xs12 : List (List C)) (nl13 : Option Bool) (t13 : Bool) (xs13 : List (List C)) (i14 : Int) (b15 : Bool) (i17 : Int) : Fr × Hp := ([(0, V.c (C.sl 3 nl0 t0 xs)), (1, V.c (C.sl 3 nl1 t1 ys)), (2, V.c (C.str q)), (7, V.c (C.sl 3 nl7 t7 xs7)), (11, V.c (C.sl 3 nl11 t11 xs11)), (12, V.c (C.sl 3 nl12 t12 xs12)), (13, V.c (C.sl 3 nl13 t13 xs13)), (14, V.c (C.int IntKind.i64 i14)), (15, V.c (C.bool b15)), (17, V.c (C.int IntKind.i64 i17))], [])
noncomputable abbrev b11_0_1 : Code := loopAt b11_0 1
abbrev x11_0_1x0 (xs : List (List C)) (ys : List (List C)) (q : List UInt8) (nl0 : Option Bool) (t0 : Bool) (nl1 : Option Bool) (t1 : Bool) (nl7 : Option Bool) (t7 : Bool) (xs7 : List (List C)) (nl11 : Option Bool) (t11 : Bool) (xs11 : List (List C)) (nl12 : Option Bool) (t12 : Bool) (xs12 : List (List C)) (nl13 : Option Bool) (t13 : Bool) (xs13 : List (List C)) (i14 : Int) (b15 : Bool) (i17 : Int) : Ex × Fr × Hp := (Ex.exit 4, [(0, V.c (C.sl 3 nl0 t0 xs)), (1, V.c (C.sl 3 nl1 t1 ys)), (2, V.c (C.str q)), (7, V.c (C.sl 3 nl7 t7 xs7)), (11, V.c (C.sl 3 nl11 t11 xs11)), (12, V.c (C.sl 3 nl12 t12 xs12)), (13, V.c (C.sl 3 nl13 t13 xs13)), (14, V.c (C.int IntKind.i64 i14)), (15, V.c (C.bool b15)), (17, V.c (C.int IntKind.i64 i17)), (97, V.c (C.bool false))], [])
abbrev x11_0x0 : Ex × Fr × Hp := (Ex.ret, [(6, V.c (C.bool false))], [])
abbrev x11_0x1 (xs : List (List C)) (ys : List (List C)) (q : List UInt8) (nl0 : Option Bool) (t0 : Bool) (nl1 : Option Bool) (t1 : Bool) (nl7 : Option Bool) (t7 : Bool) (xs7 : List (List C)) (nl11 : Option Bool) (t11 : Bool) (xs11 : List (List C)) (nl12 : Option Bool) (t12 : Bool) (xs12 : List (List C)) (nl13 : Option Bool) (t13 : Bool) (xs13 : List (List C)) (i14 : Int) : Ex × Fr × Hp := (Ex.exit 0, [(0, V.c (C.sl 3 nl0 t0 xs)), (1, V.c (C.sl 3 nl1 t1 ys)), (2, V.c (C.str q)), (7, V.c (C.sl 3 nl7 t7 xs7)), (11, V.c (C.sl 3 nl11 t11 xs11)), (12, V.c (C.sl 3 nl12 t12 xs12)), (13, V.c (C.sl 3 nl13 t13 xs13)), (14, V.c (C.int IntKind.i64 i14)), (73, V.c (C.bool false))], [])
theorem t11_0_0 (xs : List (List C)) (ys : List (List C)) (q : List UInt8) (nl0 : Option Bool) (t0 : Bool) (nl1 : Option Bool) (t1 : Bool) (nl7 : Option Bool) (t7 : Bool) (xs7 : List (List C)) (nl11 : Option Bool) (t11 : Bool) (xs11 : List (List C)) (nl12 : Option Bool) (t12 : Bool) (xs12 : List (List C)) (nl13 : Option Bool) (t13 : Bool) (xs13 : List (List C)) (i14 : Int) (b15 : Bool) (i16 : Int) : p11.lts b11_0_0 (s11_0_0 xs ys q nl0 t0 nl1 t1 nl7 t7 xs7 nl11 t11 xs11 nl12 t12 xs12 nl13 t13 xs13 i14 b15 i16) = (Tr.br (decide (i16 < (↑xs12.length : Int))) (Tr.br b15 (Tr.leaf (R.s (s11_0_0 xs ys q nl0 t0 nl1 t1 nl7 t7 xs7 nl11 t11 xs11 nl12 t12 xs12 nl13 t13 xs13 i14 true (IntKind.i64.wrap (i16 + 1))))) (Tr.chk (decide (0 ≤ i16)) (Tr.chk true (Tr.chk (decide (i16.toNat < xs12.length)) (Tr.chk (shOk [Sk.str, Sk.int IntKind.i64, Sk.int IntKind.i64] (xs12.getD i16.toNat [])) (Tr.chk (decide (0 ≤ i14)) (Tr.chk true (Tr.chk (decide (i14.toNat < xs11.length)) (Tr.chk (shOk [Sk.str, Sk.int IntKind.i64, Sk.int IntKind.i64] (xs11.getD i14.toNat [])) (Tr.leaf (R.s (s11_0_0 xs ys q nl0 t0 nl1 t1 nl7 t7 xs7 nl11 t11 xs11 nl12 t12 xs12 nl13 t13 xs13 i14 (((xs12.getD i16.toNat []).headD C.pnil).st == ((xs11.getD i14.toNat []).headD C.pnil).st && (((xs12.getD i16.toNat []).tail.headD C.pnil).i == ((xs11.getD i14.toNat []).tail.headD C.pnil).i && (((xs12.getD i16.toNat []).tail.tail.headD C.pnil).i == ((xs11.getD i14.toNat []).tail.tail.headD C.pnil).i && true))) (IntKind.i64.wrap (i16 + 1)))))))))))))) (Tr.leaf (R.x (x11_0_0x0 xs ys q nl0 t0 nl1 t1 nl7 t7 xs7 nl11 t11 xs11 nl12 t12 xs12 nl13 t13 xs13 i14 b15 i16)))) := by kernel_rfl
theorem t11_0_1 (xs : List (List C)) (ys : List (List C)) (q : List UInt8) (nl0 : Option Bool) (t0 : Bool) (nl1 : Option Bool) (t1 : Bool) (nl7 : Option Bool) (t7 : Bool) (xs7 : List (List C)) (nl11 : Option Bool) (t11 : Bool) (xs11 : List (List C)) (nl12 : Option Bool) (t12 : Bool) (xs12 : List (List C)) (nl13 : Option Bool) (t13 : Bool) (xs13 : List (List C)) (i14 : Int) (b15 : Bool) (i17 : Int) : p11.lts b11_0_1 (s11_0_1 xs ys q nl0 t0 nl1 t1 nl7 t7 xs7 nl11 t11 xs11 nl12 t12 xs12 nl13 t13 xs13 i14 b15 i17) = (Tr.br (decide (i17 < (↑xs13.length : Int))) (Tr.br b15 (Tr.leaf (R.s (s11_0_1 xs ys q nl0 t0 nl1 t1 nl7 t7 xs7 nl11 t11 xs11 nl12 t12 xs12 nl13 t13 xs13 i14 true (IntKind.i64.wrap (i17 + 1))))) (Tr.chk (decide (0 ≤ i17)) (Tr.chk true (Tr.chk (decide (i17.toNat < xs13.length)) (Tr.chk (shOk [Sk.str, Sk.int IntKind.i64, Sk.int IntKind.i64] (xs13.getD i17.toNat [])) (Tr.chk (decide (0 ≤ i14)) (Tr.chk true (Tr.chk (decide (i14.toNat < xs11.length)) (Tr.chk (shOk [Sk.str, Sk.int IntKind.i64, Sk.int IntKind.i64] (xs11.getD i14.toNat [])) (Tr.leaf (R.s (s11_0_1 xs ys q nl0 t0 nl1 t1 nl7 t7 xs7 nl11 t11 xs11 nl12 t12 xs12 nl13 t13 xs13 i14 (((xs13.getD i17.toNat []).headD C.pnil).st == ((xs11.getD i14.toNat []).headD C.pnil).st && (((xs13.getD i17.toNat []).tail.headD C.pnil).i == ((xs11.getD i14.toNat []).tail.headD C.pnil).i && (((xs13.getD i17.toNat []).tail.tail.headD C.pnil).i == ((xs11.getD i14.toNat []).tail.tail.headD C.pnil).i && true))) (IntKind.i64.wrap (i17 + 1)))))))))))))) (Tr.leaf (R.x (x11_0_1x0 xs ys q nl0 t0 nl1 t1 nl7 t7 xs7 nl11 t11 xs11 nl12 t12 xs12 nl13 t13 xs13 i14 b15 i17)))) := by kernel_rfl
theorem k11_0_1x0 (xs : List (List C)) (ys : List (List C)) (q : List UInt8) (nl0 : Option Bool) (t0 : Bool) (nl1 : Option Bool) (t1 : Bool) (nl7 : Option Bool) (t7 : Bool) (xs7 : List (List C)) (nl11 : Option Bool) (t11 : Bool) (xs11 : List (List C)) (nl12 : Option Bool) (t12 : Bool) (xs12 : List (List C)) (nl13 : Option Bool) (t13 : Bool) (xs13 : List (List C)) (i14 : Int) (b15 : Bool) (i17 : Int) : p11.lkx b11_0 1 (x11_0_1x0 xs ys q nl0 t0 nl1 t1 nl7 t7 xs7 nl11 t11 xs11 nl12 t12 xs12 nl13 t13 xs13 i14 b15 i17) = (Tr.br (!b15) (Tr.leaf (R.x x11_0x0)) (Tr.chk (decide (0 ≤ i14)) (Tr.chk true (Tr.chk (decide (i14.toNat < xs11.length)) (Tr.chk (shOk [Sk.str, Sk.int IntKind.i64, Sk.int IntKind.i64] (xs11.getD i14.toNat [])) (Tr.br (!((xs11.getD i14.toNat []).headD C.pnil).st == q) (Tr.leaf (R.x x11_0x0)) (Tr.br (decide (0 < i14)) (Tr.chk (decide (0 ≤ IntKind.i64.wrap (i14 - 1))) (Tr.chk true (Tr.chk (decide ((IntKind.i64.wrap (i14 - 1)).toNat < xs11.length)) (Tr.chk (shOk [Sk.str, Sk.int IntKind.i64, Sk.int IntKind.i64] (xs11.getD (IntKind.i64.wrap (i14 - 1)).toNat [])) (Tr.chk (decide (0 ≤ i14)) (Tr.chk true (Tr.chk (decide (i14.toNat < xs11.length)) (Tr.chk (shOk [Sk.str, Sk.int IntKind.i64, Sk.int IntKind.i64] (xs11.getD i14.toNat [])) (Tr.br (decide (((xs11.getD i14.toNat []).tail.headD C.pnil).i ≤ ((xs11.getD (IntKind.i64.wrap (i14 - 1)).toNat []).tail.headD C.pnil).i)) (Tr.leaf (R.x x11_0x0)) (Tr.leaf (R.s (s11_0 xs ys q nl0 t0 nl1 t1 nl7 t7 xs7 nl11 t11 xs11 nl12 t12 xs12 nl13 t13 xs13 (IntKind.i64.wrap (i14 + 1)))))))))))))) (Tr.leaf (R.s (s11_0 xs ys q nl0 t0 nl1 t1 nl7 t7 xs7 nl11 t11 xs11 nl12 t12 xs12 nl13 t13 xs13 (IntKind.i64.wrap (i14 + 1)))))))))))) := by kernel_rfl
theorem k11_0_0x0 (xs : List (List C)) (ys : List (List C)) (q : List UInt8) (nl0 : Option Bool) (t0 : Bool) (nl1 : Option Bool) (t1 : Bool) (nl7 : Option Bool) (t7 : Bool) (xs7 : List (List C)) (nl11 : Option Bool) (t11 : Bool) (xs11 : List (List C)) (nl12 : Option Bool) (t12 : Bool) (xs12 : List (List C)) (nl13 : Option Bool) (t13 : Bool) (xs13 : List (List C)) (i14 : Int) (b15 : Bool) (i16 : Int) : p11.lkx b11_0 0 (x11_0_0x0 xs ys q nl0 t0 nl1 t1 nl7 t7 xs7 nl11 t11 xs11 nl12 t12 xs12 nl13 t13 xs13 i14 b15 i16) = (Tr.ls 1 (s11_0_1 xs ys q nl0 t0 nl1 t1 nl7 t7 xs7 nl11 t11 xs11 nl12 t12 xs12 nl13 t13 xs13 i14 b15 (0))) := by kernel_rfl
theorem t11_0 (xs : List (List C)) (ys : List (List C)) (q : List UInt8) (nl0 : Option Bool) (t0 : Bool) (nl1 : Option Bool) (t1 : Bool) (nl7 : Option Bool) (t7 : Bool) (xs7 : List (List C)) (nl11 : Option Bool) (t11 : Bool) (xs11 : List (List C)) (nl12 : Option Bool) (t12 : Bool) (xs12 : List (List C)) (nl13 : Option Bool) (t13 : Bool) (xs13 : List (List C)) (i14 : Int) : p11.lts b11_0 (s11_0 xs ys q nl0 t0 nl1 t1 nl7 t7 xs7 nl11 t11 xs11 nl12 t12 xs12 nl13 t13 xs13 i14) = (Tr.br (decide (i14 < (↑xs11.length : Int))) (Tr.ls 0 (s11_0_0 xs ys q nl0 t0 nl1 t1 nl7 t7 xs7 nl11 t11 xs11 nl12 t12 xs12 nl13 t13 xs13 i14 false (0))) (Tr.leaf (R.x (x11_0x1 xs ys q nl0 t0 nl1 t1 nl7 t7 xs7 nl11 t11 xs11 nl12 t12 xs12 nl13 t13 xs13 i14)))) := by kernel_rfl
theorem k11_0x0 : p11.fkx 0 x11_0x0 = (Tr.leaf (R.out [V.c (C.bool false)] [])) := by kernel_rfl
theorem k11_0x1 (xs : List (List C)) (ys : List (List C)) (q : List UInt8) (nl0 : Option Bool) (t0 : Bool) (nl1 : Option Bool) (t1 : Bool) (nl7 : Option Bool) (t7 : Bool) (xs7 : List (List C)) (nl11 : Option Bool) (t11 : Bool) (xs11 : List (List C)) (nl12 : Option Bool) (t12 : Bool) (xs12 : List (List C)) (nl13 : Option Bool) (t13 : Bool) (xs13 : List (List C)) (i14 : Int) : p11.fkx 0 (x11_0x1 xs ys q nl0 t0 nl1 t1 nl7 t7 xs7 nl11 t11 xs11 nl12 t12 xs12 nl13 t13 xs13 i14) = (Tr.br ((↑xs11.length : Int) == IntKind.i64.wrap ((↑xs12.length : Int) + (↑xs13.length : Int))) (Tr.br ((↑xs7.length : Int) == IntKind.i64.wrap ((↑xs.length : Int) + (↑ys.length : Int))) (Tr.chk (isPsts xs7) (Tr.chk (decide (xs7.length < 4294967296)) (Tr.br (checkP (toPsts xs7) == 0) (Tr.leaf (R.out [V.c (C.bool true)] [])) (Tr.leaf (R.out [V.c (C.bool false)] []))))) (Tr.leaf (R.out [V.c (C.bool false)] []))) (Tr.leaf (R.out [V.c (C.bool false)] []))) := by kernel_rfl
theorem t11 (xs : List (List C)) (ys : List (List C)) (q : List UInt8) : p11.ft ([V.c (C.sl 3 none false xs), V.c (C.sl 3 none false ys), V.c (C.str q)]) ([]) = (Tr.chk (isPsts xs) (Tr.br (!fewP (toPsts xs)) (Tr.leaf (R.out [V.c (C.bool true)] [])) (Tr.chk (isPsts ys) (Tr.br (!fewP (toPsts ys)) (Tr.leaf (R.out [V.c (C.bool true)] [])) (Tr.br (decide (100 < (↑q.length : Int))) (Tr.leaf (R.out [V.c (C.bool true)] [])) (Tr.chk (isPsts xs) (Tr.chk (isPsts ys) (Tr.chk (decide (xs.length + ys.length < 4294967296)) (Tr.chk (isPsts ys) (Tr.chk (isPsts xs) (Tr.chk (decide (ys.length + xs.length < 4294967296)) (Tr.br ((addP (toPsts xs) (toPsts ys)).snd != (addP (toPsts ys) (toPsts xs)).snd) (Tr.leaf (R.out [V.c (C.bool false)] [])) (Tr.chk (isPsts (psts (addP (toPsts xs) (toPsts ys)).fst)) (Tr.chk (isPsts (psts (addP (toPsts ys) (toPsts xs)).fst)) (Tr.chk (decide ((psts (addP (toPsts xs) (toPsts ys)).fst).length < 4294967296)) (Tr.br (!decide (toPsts (psts (addP (toPsts xs) (toPsts ys)).fst) = toPsts (psts (addP (toPsts ys) (toPsts xs)).fst))) (Tr.leaf (R.out [V.c (C.bool false)] [])) (Tr.br ((addP (toPsts xs) (toPsts ys)).snd != 0) (Tr.br ((↑(psts (addP (toPsts xs) (toPsts ys)).fst).length : Int) == 0) (Tr.leaf (R.out [V.c (C.bool true)] [])) (Tr.leaf (R.out [V.c (C.bool false)] []))) (Tr.chk (isPsts (psts (addP (toPsts xs) (toPsts ys)).fst)) (Tr.chk (decide ((psts (addP (toPsts xs) (toPsts ys)).fst).length < 4294967296)) (Tr.chk true (Tr.chk (isPsts xs) (Tr.chk (decide (xs.length < 4294967296)) (Tr.chk true (Tr.chk (isPsts ys) (Tr.chk (decide (ys.length < 4294967296)) (Tr.chk true (Tr.ls 0 (s11_0 xs ys q (none) false (none) false (none) false (psts (addP (toPsts xs) (toPsts ys)).fst) (none) false (psts (probeP (toPsts (psts (addP (toPsts xs) (toPsts ys)).fst)) q)) (none) false (psts (probeP (toPsts xs) q)) (none) false (psts (probeP (toPsts ys) q)) (0))))))))))))))))))))))))))))) := by kernel_rfl
noncomputable abbrev p12 : Par := par E sh ctL 12 5 0
abbrev s12_0 (cs : List (List C)) (n : Int) (xs : List (List C)) (q : List UInt8) (zs : List (List C)) (nl0 : Option Bool) (t0 : Bool) (nl2 : Option Bool) (t2 : Bool) (nl4 : Option Bool) (t4 : Bool) (i11 : Int) : Fr × Hp := ([(0, V.c (C.sl 3 nl0 t0 cs)), (1, V.c (C.int IntKind.i64 n)), (2, V.c (C.sl 3 nl2 t2 xs)), (3, V.c (C.str q)), (4, V.c (C.sl 1 nl4 t4 zs)), (11, V.c (C.int IntKind.i64 i11))], [])
noncomputable abbrev b12_0 : Code := loopAt (codeOf p12.E p12.g) 0
abbrev x12_0x0 : Ex × Fr × Hp := (Ex.ret, [(10, V.c (C.bool true))], [])
abbrev x12_0x1 (cs : List (List C)) (n : Int) (xs : List (List C)) (q : List UInt8) (zs : List (List C)) (nl0 : Option Bool) (t0 : Bool) (nl2 : Option Bool) (t2 : Bool) (nl4 : Option Bool) (t4 : Bool) (i11 : Int) : Ex × Fr × Hp := (Ex.exit 0, [(0, V.c (C.sl 3 nl0 t0 cs)), (1, V.c (C.int IntKind.i64 n)), (2, V.c (C.sl 3 nl2 t2 xs)), (3, V.c (C.str q)), (4, V.c (C.sl 1 nl4 t4 zs)), (11, V.c (C.int IntKind.i64 i11)), (38, V.c (C.bool false))], [])
theorem t12_0 (cs : List (List C)) (n : Int) (xs : List (List C)) (q : List UInt8) (zs : List (List C)) (nl0 : Option Bool) (t0 : Bool) (nl2 : Option Bool) (t2 : Bool) (nl4 : Option Bool) (t4 : Bool) (i11 : Int) : p12.lts b12_0 (s12_0 cs n xs q zs nl0 t0 nl2 t2 nl4 t4 i11) = (Tr.br (decide (i11 < (↑cs.length : Int))) (Tr.chk (decide (0 ≤ i11)) (Tr.chk true (Tr.chk (decide (i11.toNat < cs.length)) (Tr.chk (shOk [Sk.str, Sk.sl 5, Sk.sl 5] (cs.getD i11.toNat [])) (Tr.br (decide (100 < (↑((cs.getD i11.toNat []).headD C.pnil).st.length : Int))) (Tr.leaf (R.x x12_0x0)) (Tr.chk (decide (0 ≤ i11)) (Tr.chk true (Tr.chk (decide (i11.toNat < cs.length)) (Tr.chk (shOk [Sk.str, Sk.sl 5, Sk.sl 5] (cs.getD i11.toNat [])) (Tr.br (decide (70 < (↑((cs.getD i11.toNat []).tail.headD C.pnil).xs.length : Int))) (Tr.leaf (R.x x12_0x0)) (Tr.chk (decide (0 ≤ i11)) (Tr.chk true (Tr.chk (decide (i11.toNat < cs.length)) (Tr.chk (shOk [Sk.str, Sk.sl 5, Sk.sl 5] (cs.getD i11.toNat [])) (Tr.br (decide (70 < (↑((cs.getD i11.toNat []).tail.tail.headD C.pnil).xs.length : Int))) (Tr.leaf (R.x x12_0x0)) (Tr.leaf (R.s (s12_0 cs n xs q zs nl0 t0 nl2 t2 nl4 t4 (IntKind.i64.wrap (i11 + 1)))))))))))))))))))) (Tr.leaf (R.x (x12_0x1 cs n xs q zs nl0 t0 nl2 t2 nl4 t4 i11)))) := by kernel_rfl
theorem k12_0x0 : p12.fkx 0 x12_0x0 = (Tr.leaf (R.out [V.c (C.bool true)] [])) := by kernel_rfl
theorem k12_0x1 (cs : List (List C)) (n : Int) (xs : List (List C)) (q : List UInt8) (zs : List (List C)) (nl0 : Option Bool) (t0 : Bool) (nl2 : Option Bool) (t2 : Bool) (nl4 : Option Bool) (t4 : Bool) (i11 : Int) : p12.fkx 0 (x12_0x1 cs n xs q zs nl0 t0 nl2 t2 nl4 t4 i11) = (Tr.chk (isChs cs) (Tr.chk (decide (cs.length < 4294967290)) (Tr.chk (isChs cs) (Tr.chk (decide (cs.length < 4294967290)) (Tr.chk (isPsts (psts (ofC (toChs cs) n).fst)) (Tr.chk (isPsts (psts (ofC (toChs cs) n).fst)) (Tr.chk (decide ((psts (ofC (toChs cs) n).fst).length < 4294967296)) (Tr.br (decide (toPsts (psts (ofC (toChs cs) n).fst) = toPsts (psts (ofC (toChs cs) n).fst))) (Tr.br ((ofC (toChs cs) n).snd == (ofC (toChs cs) n).snd) (Tr.chk (isPsts xs) (Tr.chk (decide (xs.length < 4294967296)) (Tr.chk (decide (nl2 ≠ some true ∨ xs = [])) (Tr.chk (isPsts xs) (Tr.chk (decide (xs.length < 1000000)) (Tr.chk (isPsts (psts (probeP (toPsts xs) q))) (Tr.chk (isPsts (psts (probeP (toPsts xs) q))) (Tr.chk (decide ((psts (probeP (toPsts xs) q)).length < 4294967296)) (Tr.br (decide (toPsts (psts (probeP (toPsts xs) q)) = toPsts (psts (probeP (toPsts xs) q)))) (Tr.chk (isPsts xs) (Tr.chk (decide (xs.length < 4294967290)) (Tr.chk (decide (nl2 ≠ some true ∨ xs = [])) (Tr.chk (isPsts xs) (Tr.chk (decide (xs.length < 4294967290)) (Tr.chk (isPsts (psts (underP (toPsts xs) q))) (Tr.chk (isPsts (psts (underP (toPsts xs) q))) (Tr.chk (decide ((psts (underP (toPsts xs) q)).length < 4294967296)) (Tr.br (decide (toPsts (psts (underP (toPsts xs) q)) = toPsts (psts (underP (toPsts xs) q)))) (Tr.chk (isPsts xs) (Tr.chk (isInts zs) (Tr.chk (decide (xs.length < 4294967290)) (Tr.chk (decide (nl2 ≠ some true ∨ xs = [])) (Tr.chk (decide (zs.length < 4294967290)) (Tr.chk (isPsts xs) (Tr.chk (isInts zs) (Tr.chk (decide (xs.length < 1000)) (Tr.chk (decide (zs.length < 1000)) (Tr.chk (isPsts (psts (onP (toPsts xs) q (toInts zs)))) (Tr.chk (isPsts (psts (onP (toPsts xs) q (toInts zs)))) (Tr.chk (decide ((psts (onP (toPsts xs) q (toInts zs))).length < 4294967296)) (Tr.br (decide (toPsts (psts (onP (toPsts xs) q (toInts zs))) = toPsts (psts (onP (toPsts xs) q (toInts zs))))) (Tr.leaf (R.out [V.c (C.bool true)] [])) (Tr.leaf (R.out [V.c (C.bool false)] []))))))))))))))) (Tr.leaf (R.out [V.c (C.bool false)] []))))))))))) (Tr.leaf (R.out [V.c (C.bool false)] []))))))))))) (Tr.leaf (R.out [V.c (C.bool false)] []))) (Tr.leaf (R.out [V.c (C.bool false)] [])))))))))) := by kernel_rfl
theorem t12 (cs : List (List C)) (n : Int) (xs : List (List C)) (q : List UInt8) (zs : List (List C)) : p12.ft ([V.c (C.sl 3 none false cs), V.i n, V.c (C.sl 3 none false xs), V.c (C.str q), V.c (C.sl 1 none false zs)]) ([]) = (Tr.br (decide (60 < (↑cs.length : Int))) (Tr.leaf (R.out [V.c (C.bool true)] [])) (Tr.chk (isPsts xs) (Tr.br (!fewP (toPsts xs)) (Tr.leaf (R.out [V.c (C.bool true)] [])) (Tr.br (decide (100 < (↑q.length : Int))) (Tr.leaf (R.out [V.c (C.bool true)] [])) (Tr.br (decide (60 < (↑zs.length : Int))) (Tr.leaf (R.out [V.c (C.bool true)] [])) (Tr.ls 0 (s12_0 cs n xs q zs (none) false (none) false (none) false (0)))))))) := by kernel_rfl
noncomputable abbrev p13 : Par := par E sh ctL 13 2 0
abbrev s13_0 (xs : List (List C)) (q : List UInt8) (nl0 : Option Bool) (t0 : Bool) (nl5 : Option Bool) (t5 : Bool) (xs5 : List (List C)) (i6 : Int) (i7 : Int) : Fr × Hp := ([(0, V.c (C.sl 3 nl0 t0 xs)), (1, V.c (C.str q)), (5, V.c (C.sl 3 nl5 t5 xs5)), (6, V.c (C.int IntKind.i64 i6)), (7, V.c (C.int IntKind.i64 i7))], [])
noncomputable abbrev b13_0 : Code := loopAt (codeOf p13.E p13.g) 0
abbrev x13_0x0 : Ex × Fr × Hp := (Ex.ret, [(4, V.c (C.bool false))], [])
abbrev x13_0x1 (xs : List (List C)) (q : List UInt8) (nl0 : Option Bool) (t0 : Bool) (nl5 : Option Bool) (t5 : Bool) (xs5 : List (List C)) (i6 : Int) (i7 : Int) : Ex × Fr × Hp := (Ex.exit 0, [(0, V.c (C.sl 3 nl0 t0 xs)), (1, V.c (C.str q)), (5, V.c (C.sl 3 nl5 t5 xs5)), (6, V.c (C.int IntKind.i64 i6)), (7, V.c (C.int IntKind.i64 i7)), (31, V.c (C.bool false))], [])
abbrev s13_1 (xs : List (List C)) (q : List UInt8) (nl0 : Option Bool) (t0 : Bool) (nl5 : Option Bool) (t5 : Bool) (xs5 : List (List C)) (i6 : Int) (nl8 : Option Bool) (t8 : Bool) (xs8 : List (List C)) (n9 : Nat) (i10 : Int) (ys0 : List (List C)) : Fr × Hp := ([(0, V.c (C.sl 3 nl0 t0 xs)), (1, V.c (C.str q)), (5, V.c (C.sl 3 nl5 t5 xs5)), (6, V.c (C.int IntKind.i64 i6)), (8, V.c (C.sl 3 nl8 t8 xs8)), (9, V.buf 0 0 0 n9), (10, V.c (C.int IntKind.i64 i10))], [O.mem 1 0 ys0])
noncomputable abbrev b13_1 : Code := loopAt (codeOf p13.E p13.g) 1
abbrev x13_1x0 (xs : List (List C)) (q : List UInt8) (nl0 : Option Bool) (t0 : Bool) (nl5 : Option Bool) (t5 : Bool) (xs5 : List (List C)) (i6 : Int) (nl8 : Option Bool) (t8 : Bool) (xs8 : List (List C)) (n9 : Nat) (i10 : Int) (ys0 : List (List C)) : Ex × Fr × Hp := (Ex.exit 2, [(0, V.c (C.sl 3 nl0 t0 xs)), (1, V.c (C.str q)), (5, V.c (C.sl 3 nl5 t5 xs5)), (6, V.c (C.int IntKind.i64 i6)), (8, V.c (C.sl 3 nl8 t8 xs8)), (9, V.buf 0 0 0 n9), (10, V.c (C.int IntKind.i64 i10)), (78, V.c (C.bool false))], [O.mem 1 0 ys0])
theorem t13_0 (xs : List (List C)) (q : List UInt8) (nl0 : Option Bool) (t0 : Bool) (nl5 : Option Bool) (t5 : Bool) (xs5 : List (List C)) (i6 : Int) (i7 : Int) : p13.lts b13_0 (s13_0 xs q nl0 t0 nl5 t5 xs5 i6 i7) = (Tr.br (decide (i7 < (↑xs.length : Int))) (Tr.chk (decide (0 ≤ i7)) (Tr.chk true (Tr.chk (decide (i7.toNat < xs.length)) (Tr.chk (shOk [Sk.str, Sk.int IntKind.i64, Sk.int IntKind.i64] (xs.getD i7.toNat [])) (Tr.br (decide ((↑q.length : Int) ≤ (↑((xs.getD i7.toNat []).headD C.pnil).st.length : Int))) (Tr.chk (decide (0 ≤ i7)) (Tr.chk true (Tr.chk (decide (i7.toNat < xs.length)) (Tr.chk (shOk [Sk.str, Sk.int IntKind.i64, Sk.int IntKind.i64] (xs.getD i7.toNat [])) (Tr.chk true (Tr.chk true (Tr.chk (decide ((↑q.length : Int).toNat ≤ ((xs.getD i7.toNat []).headD C.pnil).st.length)) (Tr.br (List.take (↑q.length : Int).toNat ((xs.getD i7.toNat []).headD C.pnil).st == q) (Tr.br (decide ((↑xs5.length : Int) ≤ i6)) (Tr.leaf (R.x x13_0x0)) (Tr.chk (decide (0 ≤ i6)) (Tr.chk true (Tr.chk (decide (i6.toNat < xs5.length)) (Tr.chk (shOk [Sk.str, Sk.int IntKind.i64, Sk.int IntKind.i64] (xs5.getD i6.toNat [])) (Tr.chk (decide (0 ≤ i7)) (Tr.chk true (Tr.chk (decide (i7.toNat < xs.length)) (Tr.chk (shOk [Sk.str, Sk.int IntKind.i64, Sk.int IntKind.i64] (xs.getD i7.toNat [])) (Tr.br (!(((xs5.getD i6.toNat []).headD C.pnil).st == ((xs.getD i7.toNat []).headD C.pnil).st && (((xs5.getD i6.toNat []).tail.headD C.pnil).i == ((xs.getD i7.toNat []).tail.headD C.pnil).i && (((xs5.getD i6.toNat []).tail.tail.headD C.pnil).i == ((xs.getD i7.toNat []).tail.tail.headD C.pnil).i && true)))) (Tr.leaf (R.x x13_0x0)) (Tr.leaf (R.s (s13_0 xs q nl0 t0 nl5 t5 xs5 (IntKind.i64.wrap (i6 + 1)) (IntKind.i64.wrap (i7 + 1))))))))))))))) (Tr.leaf (R.s (s13_0 xs q nl0 t0 nl5 t5 xs5 i6 (IntKind.i64.wrap (i7 + 1))))))))))))) (Tr.leaf (R.s (s13_0 xs q nl0 t0 nl5 t5 xs5 i6 (IntKind.i64.wrap (i7 + 1)))))))))) (Tr.leaf (R.x (x13_0x1 xs q nl0 t0 nl5 t5 xs5 i6 i7)))) := by kernel_rfl
theorem k13_0x0 : p13.fkx 0 x13_0x0 = (Tr.leaf (R.out [V.c (C.bool false)] [])) := by kernel_rfl
theorem t13_1 (xs : List (List C)) (q : List UInt8) (nl0 : Option Bool) (t0 : Bool) (nl5 : Option Bool) (t5 : Bool) (xs5 : List (List C)) (i6 : Int) (nl8 : Option Bool) (t8 : Bool) (xs8 : List (List C)) (n9 : Nat) (i10 : Int) (ys0 : List (List C)) : p13.lts b13_1 (s13_1 xs q nl0 t0 nl5 t5 xs5 i6 nl8 t8 xs8 n9 i10 ys0) = (Tr.br (decide (i10 < (↑xs8.length : Int))) (Tr.chk (decide (0 ≤ i10)) (Tr.chk true (Tr.chk (decide (i10.toNat < xs8.length)) (Tr.chk (shOk [Sk.str, Sk.int IntKind.i64, Sk.int IntKind.i64] (xs8.getD i10.toNat [])) (Tr.chk true (Tr.chk true (Tr.chk (decide (n9 + 1 < 4294967296)) (Tr.chk true (Tr.leaf (R.s (s13_1 xs q nl0 t0 nl5 t5 xs5 i6 nl8 t8 xs8 (n9 + 1) (IntKind.i64.wrap (i10 + 1)) (List.take n9 ys0 ++ [[(Sk.int IntKind.i64).mk ((xs8.getD i10.toNat []).tail.headD C.pnil)]])))))))))))) (Tr.leaf (R.x (x13_1x0 xs q nl0 t0 nl5 t5 xs5 i6 nl8 t8 xs8 n9 i10 ys0)))) := by kernel_rfl
theorem k13_1x0 (xs : List (List C)) (q : List UInt8) (nl0 : Option Bool) (t0 : Bool) (nl5 : Option Bool) (t5 : Bool) (xs5 : List (List C)) (i6 : Int) (nl8 : Option Bool) (t8 : Bool) (xs8 : List (List C)) (n9 : Nat) (i10 : Int) (ys0 : List (List C)) : p13.fkx 1 (x13_1x0 xs q nl0 t0 nl5 t5 xs5 i6 nl8 t8 xs8 n9 i10 ys0) = (Tr.br (i6 == (↑xs5.length : Int)) (Tr.chk (isPsts xs) (Tr.chk (decide (xs.length < 4294967290)) (Tr.chk (decide (nl0 ≠ some true ∨ xs = [])) (Tr.chk (isPsts (psts (underP (toPsts xs) []))) (Tr.chk (isPsts xs) (Tr.chk (decide ((psts (underP (toPsts xs) [])).length < 4294967296)) (Tr.br (decide (toPsts (psts (underP (toPsts xs) [])) = toPsts xs)) (Tr.chk (isPsts xs) (Tr.chk (isInts (List.take n9 ys0)) (Tr.chk (decide (xs.length < 4294967290)) (Tr.chk (decide (nl0 ≠ some true ∨ xs = [])) (Tr.chk (decide ((List.take n9 ys0).length < 4294967290)) (Tr.chk (isPsts (psts (onP (toPsts xs) q (toInts (List.take n9 ys0))))) (Tr.chk (isPsts xs8) (Tr.chk (decide ((psts (onP (toPsts xs) q (toInts (List.take n9 ys0)))).length < 4294967296)) (Tr.br (decide (toPsts (psts (onP (toPsts xs) q (toInts (List.take n9 ys0)))) = toPsts xs8)) (Tr.chk (isPsts xs) (Tr.chk true (Tr.chk (decide (xs.length < 4294967290)) (Tr.chk (decide (nl0 ≠ some true ∨ xs = [])) (Tr.chk true (Tr.br true (Tr.leaf (R.out [V.c (C.bool true)] [])) (Tr.leaf (R.out [V.c (C.bool false)] [])))))))) (Tr.leaf (R.out [V.c (C.bool false)] []))))))))))) (Tr.leaf (R.out [V.c (C.bool false)] []))))))))) (Tr.leaf (R.out [V.c (C.bool false)] []))) := by kernel_rfl
theorem k13_0x1 (xs : List (List C)) (q : List UInt8) (nl0 : Option Bool) (t0 : Bool) (nl5 : Option Bool) (t5 : Bool) (xs5 : List (List C)) (i6 : Int) (i7 : Int) : p13.fkx 0 (x13_0x1 xs q nl0 t0 nl5 t5 xs5 i6 i7) = (Tr.chk (isPsts xs) (Tr.chk (decide (xs.length < 4294967296)) (Tr.chk (decide (nl0 ≠ some true ∨ xs = [])) (Tr.ls 1 (s13_1 xs q nl0 t0 nl5 t5 xs5 i6 (none) false (psts (probeP (toPsts xs) q)) (0) (0) ([])))))) := by kernel_rfl
theorem t13 (xs : List (List C)) (q : List UInt8) : p13.ft ([V.c (C.sl 3 none false xs), V.c (C.str q)]) ([]) = (Tr.chk (isPsts xs) (Tr.br (!fewP (toPsts xs)) (Tr.leaf (R.out [V.c (C.bool true)] [])) (Tr.br (decide (100 < (↑q.length : Int))) (Tr.leaf (R.out [V.c (C.bool true)] [])) (Tr.chk (isPsts xs) (Tr.chk (decide (xs.length < 4294967296)) (Tr.br (checkP (toPsts xs) != 0) (Tr.leaf (R.out [V.c (C.bool true)] [])) (Tr.chk (isPsts xs) (Tr.chk (decide (xs.length < 4294967290)) (Tr.chk true (Tr.ls 0 (s13_0 xs q (none) false (none) false (psts (underP (toPsts xs) q)) (0) (0)))))))))))) := by kernel_rfl
end Go.Proofs.YtbilmkcdhodenaaDoor

end

/-
  Chapter 13 (posting), plain: what the laws say.
-/
section
namespace Go.Proofs.YtbilmkcdhodenaaDoor
open Go Go.Ev

theorem apart_of_rise {l m s : List Pst} (hp : s.Perm (l ++ m)) (hs : s.Pairwise (fun x y => lessP x y = true)) {a b : Pst} (ha : a ∈ l) (hb : b ∈ m) : ¬ (a.p = b.p ∧ a.c = b.c) := fun e => by
  have hrl : (l ++ m).Pairwise (fun x y => lessP x y = true ∨ lessP y x = true) := hp.pairwise (hs.imp fun h => .inl h) fun h => h.symm
  have := (List.pairwise_append.1 hrl).2.2 a ha b hb
  rw [lessP_iff, lessP_iff, e.1, e.2, bl_irrefl] at this
  simp at this
theorem addP_comm (l m : List Pst) : addP l m = addP m l := by
  by_cases hl : okP l = true
  · by_cases hm : okP m = true
    · unfold addP
      rw [if_pos ⟨hl, hm⟩, if_pos ⟨hm, hl⟩]
      cases h1 : mergeP (l.length + m.length) l m with
      | none =>
        cases h2 : mergeP (m.length + l.length) m l with
        | none => rfl
        | some s =>
          exfalso
          obtain ⟨a, ha, b, hb, e⟩ := mergeP_none _ l m (Nat.le_refl _) h1
          obtain ⟨k1, k2⟩ := mergeP_some _ m l s (Nat.le_refl _) h2 (okP_lt hm) (okP_lt hl)
          exact apart_of_rise k1 k2 hb ha ⟨e.1.symm, e.2.symm⟩
      | some s =>
        obtain ⟨k1, k2⟩ := mergeP_some _ l m s (Nat.le_refl _) h1 (okP_lt hl) (okP_lt hm)
        cases h2 : mergeP (m.length + l.length) m l with
        | none =>
          exfalso
          obtain ⟨a, ha, b, hb, e⟩ := mergeP_none _ m l (Nat.le_refl _) h2
          exact apart_of_rise k1 k2 hb ha ⟨e.1.symm, e.2.symm⟩
        | some t =>
          obtain ⟨j1, j2⟩ := mergeP_some _ m l t (Nat.le_refl _) h2 (okP_lt hm) (okP_lt hl)
          have : s = t := rise_unique s t (k1.trans (List.perm_append_comm.trans j1.symm)) k2 (j2.imp fun h => lessP_asymm h)
          rw [this]
    · rw [addP_bad (fun h => hm h.2), addP_bad (fun h => hm h.1)]
  · rw [addP_bad (fun h => hl h.1), addP_bad (fun h => hl h.2)]
theorem addP_err {l m : List Pst} (h : (addP l m).2 ≠ 0) : (addP l m).1 = [] := by
  unfold addP at *
  split at h
  · rename_i hh
    rw [if_pos hh]
    cases hk : mergeP (l.length + m.length) l m with
    | none => rfl
    | some s => rw [hk] at h; exact absurd rfl h
  · rename_i hh
    rw [if_neg hh]
/-- Of a path just the postings of both. -/
theorem probe_add {l m : List Pst} (h : (addP l m).2 = 0) (q : List UInt8) : (probeP (addP l m).1 q).Perm (probeP l q ++ probeP m q) := by
  obtain ⟨hl, hm, hp, ha⟩ := addP_ok h
  unfold probeP
  rw [if_pos hl, if_pos hm, if_pos ha, ← List.filter_append]
  exact hp.filter _
theorem probe_next {l : List Pst} {q : List UInt8} {k : Nat} (h : k + 1 < (probeP l q).length) : (probeP l q)[k].c < (probeP l q)[k + 1].c := by
  have hr := List.pairwise_iff_getElem.1 (probe_rise (l := l) (q := q)) k (k + 1) (by omega) h (by omega)
  rw [lessP_iff, probe_p (List.getElem_mem (show k < _ by omega)), probe_p (List.getElem_mem h), bl_irrefl] at hr
  simpa using hr
theorem under_nil {l : List Pst} (h : okP l = true) : underP l [] = l := by
  unfold underP
  rw [if_pos h]
  exact List.filter_eq_self.2 fun x _ => begins_iff.2 ⟨x.p, rfl⟩
/-- All commits of a path's postings asked: its postings. -/
theorem onS_self {x : List Pst} {q : List UInt8} (hx : x.Pairwise (fun x y => lessP x y = true)) (hq : ∀ y ∈ x, y.p = q) : onS x (x.map fun y => y.c) = x := by
  have one : ∀ y ∈ x, (x.filter fun z => decide (z.c = y.c)) = [y] := fun y hy => by
    rw [filter_one hx hq]
    rcases findC_at y.c x 0 with ⟨_, h2⟩ | ⟨i, hi, h1, h2, _⟩
    · exact absurd rfl (h2 y hy)
    · rw [h1, Nat.zero_add, Int.toNat_natCast, List.getElem?_eq_getElem hi]
      simp only [Int.natCast_nonneg, if_true]
      rw [rise_key hx (List.getElem_mem hi) hy ⟨by rw [hq _ (List.getElem_mem hi), hq y hy], h2⟩]
  unfold onS
  rw [List.flatMap_map]
  have : ∀ z : List Pst, (∀ y ∈ z, y ∈ x) → (z.flatMap fun y => x.filter fun w => decide (w.c = y.c)) = z := by
    intro z
    induction z with
    | nil => intro _; rfl
    | cons y z ih =>
      intro h
      rw [List.flatMap_cons, one y (h y (by simp)), ih fun w hw => h w (by simp [hw])]
      rfl
  exact this x fun y h => h
theorem onP_self (l : List Pst) (q : List UInt8) : onP l q ((probeP l q).map fun y => y.c) = probeP l q :=
  onS_self probe_rise fun _ h => probe_p h
theorem filter_at {l : List Pst} {P : Pst → Bool} : ∀ {k : Nat} (h : k < l.length), P l[k] = true → (l.filter P)[((l.take k).filter P).length]? = some l[k] := by
  intro k h hp
  have : l.filter P = (l.take k).filter P ++ (l.drop k).filter P := by rw [← List.filter_append, List.take_append_drop]
  rw [this, List.getElem?_append_right (Nat.le_refl _), Nat.sub_self, List.drop_eq_getElem_cons h, List.filter_cons_of_pos hp]
  rfl
theorem probe_len (l : List Pst) (q : List UInt8) : (probeP l q).length ≤ l.length := by
  unfold probeP
  split
  · exact List.length_filter_le _ _
  · simp
theorem under_len (l : List Pst) (q : List UInt8) : (underP l q).length ≤ l.length := by
  unfold underP
  split
  · exact List.length_filter_le _ _
  · simp
theorem fewP_len {l : List Pst} (h : fewP l = true) : l.length ≤ 200 := by
  simp only [fewP, Bool.and_eq_true, decide_eq_true_eq] at h; exact h.1
theorem ofC_len (l : List Ch) (n : Int) : (ofC l n).1.length ≤ l.length := by
  unfold ofC ofP
  split
  · rw [ofG_len]; simp
  · simp
theorem onS_len {x : List Pst} : ∀ (s : List Int), (onS x s).length ≤ x.length * s.length
  | [] => by simp [onS]
  | n :: s => by
    have ih := onS_len (x := x) s
    have h := List.length_filter_le (fun y : Pst => decide (y.c = n)) x
    have e : onS x (n :: s) = x.filter (fun y => decide (y.c = n)) ++ onS x s := by simp [onS]
    rw [e, List.length_append, List.length_cons, Nat.mul_succ]
    omega
theorem onP_len (l : List Pst) (q : List UInt8) (s : List Int) : (onP l q s).length ≤ l.length * s.length := by
  have h1 := onS_len (x := probeP l q) s
  have h2 := Nat.mul_le_mul_right s.length (probe_len l q)
  exact Nat.le_trans h1 h2
end Go.Proofs.YtbilmkcdhodenaaDoor

end

/-
  Chapter 13 (posting): the laws, but for their arguments' reading.
-/
section
namespace Go.Proofs.YtbilmkcdhodenaaDoor
open Go Go.Ev

@[simp] theorem toChs_chs (l : List Ch) : toChs (chs l) = l := by
  induction l with
  | nil => rfl
  | cons x r ih =>
    have : toChs (chs (x :: r)) = dCh (ech x) :: toChs (chs r) := rfl
    rw [this, ih]
    simp [dCh, ech, C.st, C.xs]
@[simp] theorem isChs_chs (l : List Ch) : isChs (chs l) = true := by
  simp [isChs, chs, ech, shOk, Sk.ok, C.xs]
theorem chs_of {xs : List (List C)} (h : isChs xs = true) : ∃ l, xs = chs l := by
  induction xs with
  | nil => exact ⟨[], rfl⟩
  | cons c r ih =>
    simp only [isChs, List.all_cons, Bool.and_eq_true] at h
    obtain ⟨l, rfl⟩ := ih h.2
    obtain ⟨⟨h1, h2⟩, h3⟩ := h.1
    refine ⟨dCh c :: l, ?_⟩
    have e := shape_ok h1
    have e1 : c = ech (dCh c) := by
      unfold ech dCh
      simp only
      rw [← rows_of h2, ← rows_of h3]
      conv => lhs; rw [← e]
      rfl
    have e3 : chs (dCh c :: l) = ech (dCh c) :: chs l := rfl
    rw [e3, ← e1]
theorem s38_ok : CSpecOk E 38 s38 := by
  intro a h cs vals h' he hc
  unfold s38 at he
  split at he <;> simp only [Option.some.injEq, Prod.mk.injEq, reduceCtorEq] at he
  rename_i nl tt xs
  obtain ⟨rfl, rfl, rfl⟩ := he
  simp only [allT, Bool.and_true, Bool.and_eq_true, decide_eq_true_eq] at hc
  obtain ⟨l, rfl⟩ := psts_ex hc
  rw [toPsts_psts]
  exact f38 l nl tt
theorem s39_ok : CSpecOk E 39 s39 := by
  intro a h cs vals h' he hc
  unfold s39 at he
  split at he <;> simp only [Option.some.injEq, Prod.mk.injEq, reduceCtorEq] at he
  obtain ⟨rfl, rfl, rfl⟩ := he
  exact f39
theorem s40_ok : CSpecOk E 40 s40 := by
  intro a h cs vals h' he hc
  unfold s40 at he
  split at he <;> simp only [Option.some.injEq, Prod.mk.injEq, reduceCtorEq] at he
  rename_i nl tt xs nl2 t2 ys
  obtain ⟨rfl, rfl, rfl⟩ := he
  simp only [allT, Bool.and_true, Bool.and_eq_true, decide_eq_true_eq] at hc
  obtain ⟨h1, h2, h3⟩ := hc
  obtain ⟨l, rfl⟩ := psts_ex h1
  obtain ⟨m, rfl⟩ := psts_ex h2
  simp only [toPsts_psts, psts_length] at *
  exact f40 l m nl tt nl2 t2 h3
theorem s41_ok : CSpecOk E 41 s41 := by
  intro a h cs vals h' he hc
  unfold s41 s40 at he
  split at he <;> simp only [Option.some.injEq, Prod.mk.injEq, reduceCtorEq] at he
  rename_i nl tt xs nl2 t2 ys
  obtain ⟨rfl, rfl, rfl⟩ := he
  simp only [allT, Bool.and_true, Bool.and_eq_true, decide_eq_true_eq] at hc
  obtain ⟨h1, h2, h3⟩ := hc
  obtain ⟨l, rfl⟩ := psts_ex h1
  obtain ⟨m, rfl⟩ := psts_ex h2
  simp only [toPsts_psts, psts_length] at *
  exact f41 l m nl tt nl2 t2 h3
theorem s42_ok : CSpecOk E 42 s42 := by
  intro a h cs vals h' he hc
  unfold s42 at he
  split at he <;> simp only [Option.some.injEq, Prod.mk.injEq, reduceCtorEq] at he
  rename_i nl tt xs nl2 t2 ys
  obtain ⟨rfl, rfl, rfl⟩ := he
  simp only [allT, Bool.and_true, Bool.and_eq_true, decide_eq_true_eq] at hc
  obtain ⟨h1, h2, h3⟩ := hc
  obtain ⟨l, rfl⟩ := psts_ex h1
  obtain ⟨m, rfl⟩ := psts_ex h2
  simp only [toPsts_psts, psts_length] at *
  exact f42 l m nl tt nl2 t2 h3
theorem s44_ok : CSpecOk E 44 s44 := by
  intro a h cs vals h' he hc
  unfold s44 s43 at he
  split at he <;> simp only [Option.some.injEq, Prod.mk.injEq, reduceCtorEq] at he
  rename_i nl tt xs
  obtain ⟨rfl, rfl, rfl⟩ := he
  simp only [allT, Bool.and_true, Bool.and_eq_true, decide_eq_true_eq] at hc
  obtain ⟨l, rfl⟩ := psts_ex hc.1
  rw [toPsts_psts]
  exact f44 l nl tt (by simpa using hc.2)
theorem s46_ok : CSpecOk E 46 s46 := by
  intro a h cs vals h' he hc
  unfold s46 s45 at he
  split at he <;> simp only [Option.some.injEq, Prod.mk.injEq, reduceCtorEq] at he
  obtain ⟨rfl, rfl, rfl⟩ := he
  exact f46 _
theorem s48_ok : CSpecOk E 48 s48 := by
  intro a h cs vals h' he hc
  unfold s48 at he
  split at he <;> simp only [Option.some.injEq, Prod.mk.injEq, reduceCtorEq] at he
  rename_i nl tt xs n
  obtain ⟨rfl, rfl, rfl⟩ := he
  simp only [allT, Bool.and_true, Bool.and_eq_true, decide_eq_true_eq] at hc
  obtain ⟨h1, h2⟩ := hc
  obtain ⟨l, rfl⟩ := chs_of h1
  rw [toChs_chs]
  exact f48 l nl tt n (by simpa using h2)
theorem s49_ok : CSpecOk E 49 s49 := by
  intro a h cs vals h' he hc
  unfold s49 s48 at he
  split at he <;> simp only [Option.some.injEq, Prod.mk.injEq, reduceCtorEq] at he
  rename_i nl tt xs n
  obtain ⟨rfl, rfl, rfl⟩ := he
  simp only [allT, Bool.and_true, Bool.and_eq_true, decide_eq_true_eq] at hc
  obtain ⟨l, rfl⟩ := chs_of hc.1
  rw [toChs_chs]
  exact f49 l nl tt n (by simpa using hc.2)
theorem lt_big {n : Nat} (h : n < 4294967290) : n < 4294967296 := by omega
theorem s51_ok : CSpecOk E 51 s51 := by
  intro a h cs vals h' he hc
  unfold s51 at he
  split at he <;> simp only [Option.some.injEq, Prod.mk.injEq, reduceCtorEq] at he
  rename_i nl tt xs q
  obtain ⟨rfl, rfl, rfl⟩ := he
  simp only [allT, Bool.and_true, Bool.and_eq_true, decide_eq_true_eq] at hc
  obtain ⟨h1, h2, h3⟩ := hc
  obtain ⟨l, rfl⟩ := psts_ex h1
  simp only [toPsts_psts, psts_length] at *
  exact f51 l nl tt q (lt_big h2) (by simpa [psts] using h3)
theorem s52_ok : CSpecOk E 52 s52 := by
  intro a h cs vals h' he hc
  unfold s52 at he
  split at he <;> simp only [Option.some.injEq, Prod.mk.injEq, reduceCtorEq] at he
  rename_i nl tt xs q
  obtain ⟨rfl, rfl, rfl⟩ := he
  simp only [allT, Bool.and_true, Bool.and_eq_true, decide_eq_true_eq] at hc
  obtain ⟨h1, h2⟩ := hc
  obtain ⟨l, rfl⟩ := psts_ex h1
  simp only [toPsts_psts, psts_length] at *
  exact f52 l nl tt q h2
theorem s53_ok : CSpecOk E 53 s53 := by
  intro a h cs vals h' he hc
  unfold s53 at he
  split at he <;> simp only [Option.some.injEq, Prod.mk.injEq, reduceCtorEq] at he
  rename_i nl tt xs q nl2 t2 ys
  obtain ⟨rfl, rfl, rfl⟩ := he
  simp only [allT, Bool.and_true, Bool.and_eq_true, decide_eq_true_eq] at hc
  obtain ⟨h1, h2, h3, h4, h5⟩ := hc
  obtain ⟨l, rfl⟩ := psts_ex h1
  obtain ⟨s, rfl⟩ := ints_ex h2
  simp only [toPsts_psts, psts_length, toInts_ints, ints_length] at *
  exact f53 l nl tt q nl2 t2 s h3 (by simpa [psts] using h4) h5
theorem s54_ok : CSpecOk E 54 s54 := by
  intro a h cs vals h' he hc
  unfold s54 at he
  split at he <;> simp only [Option.some.injEq, Prod.mk.injEq, reduceCtorEq] at he
  rename_i nl tt xs q nl2 t2 ys
  obtain ⟨rfl, rfl, rfl⟩ := he
  simp only [allT, Bool.and_true, Bool.and_eq_true, decide_eq_true_eq] at hc
  obtain ⟨h1, h2, h3, h4⟩ := hc
  obtain ⟨l, rfl⟩ := psts_ex h1
  obtain ⟨s, rfl⟩ := ints_ex h2
  simp only [toPsts_psts, psts_length, toInts_ints, ints_length] at *
  exact f54 l nl tt q nl2 t2 s h3 h4
theorem ctL_ok : ctL.ok E := ctOf_cons s38_ok (ctOf_cons s39_ok (ctOf_cons s40_ok (ctOf_cons s41_ok (ctOf_cons s42_ok (ctOf_cons s43_ok (ctOf_cons s44_ok (ctOf_cons s45_ok (ctOf_cons s46_ok (ctOf_cons s47_ok (ctOf_cons s48_ok (ctOf_cons s49_ok (ctOf_cons s50_ok (ctOf_cons s51_ok (ctOf_cons s52_ok (ctOf_cons s53_ok (ctOf_cons s54_ok ctOf_nil))))))))))))))))

theorem f10 (l m : List Pst) (k : Int) : call E 10 [.c (.sl 3 none false (psts l)), .c (.sl 3 none false (psts m)), V.i k] [] = some ([V.b true], []) := by
  refine call_of (E := E) (sh := sh) (ct := ctL) (na := 3) (m := 0) ctL_ok rfl rfl rfl rfl rfl rfl ?_
  rw [t10]
  simp only [psts_length, eo_ok, eo_ok', isPsts_psts, toPsts_psts, psts_take, psts_drop, psts_append, psts_snoc, psts_snoc', eo_p, eo_c, eo_k, eo_len, toPsts_length, dO_eo, eo_mk, ld_br, ld_chk', ld_leaf, fd_br, fd_chk', fd_leaf, decide_true, decide_eq_true_eq, if_true, Int.toNat_natCast, Int.natCast_nonneg, Int.ofNat_lt, Int.ofNat_le, Bool.false_eq_true, if_false, bne_iff_ne, beq_iff_eq, ne_eq, not_true_eq_false, not_false_eq_true, Bool.not_eq_true', decide_eq_false_iff_not, reduceCtorEq, rows_length, pcs_length, er_ok, er_ok', ep_ok, ep_ok', dr_er, dp_ep, isRows_rows, isPcs_pcs, toRows_rows, toPcs_pcs, rows_take, rows_drop, pcs_take, pcs_drop, rows_append, pcs_append, ints_length, isInts_ints, toInts_ints, ei_i, ei_ok, mk_headD, ints_take, ints_drop, ints_append, ints_snoc, ints_snoc', List.take_length, Nat.zero_add, Nat.le_refl, er_a, er_b, er_k, er_n, er_s, er_v, ep_a, ep_b, ep_hk, ep_hn, ep_hs, ep_wk, ep_wn, ep_ws]
  by_cases h1 : fewP l = true
  · by_cases h2 : fewP m = true
    · have e1 := fewP_len h1
      have e2 := fewP_len h2
      have e3 := addP_len l m
      simp [h1, h2, show l.length + m.length < 4294967296 by omega, show (addP l m).1.length < 4294967296 by omega, show l.length < 4294967296 by omega]
    · rw [Bool.not_eq_true] at h2
      simp only [h1, h2, Bool.true_eq_false, if_false, if_true]
  · rw [Bool.not_eq_true] at h1
    simp only [h1, if_true]
theorem f12 (cs : List Ch) (n : Int) (l : List Pst) (q : List UInt8) (s : List Int) : call E 12 [.c (.sl 3 none false (chs cs)), V.i n, .c (.sl 3 none false (psts l)), .c (.str q), .c (.sl 1 none false (ints s))] [] = some ([V.b true], []) := by
  refine call_of (E := E) (sh := sh) (ct := ctL) (na := 5) (m := 0) ctL_ok rfl rfl rfl rfl rfl rfl ?_
  rw [t12]
  simp only [psts_length, eo_ok, eo_ok', isPsts_psts, toPsts_psts, psts_take, psts_drop, psts_append, psts_snoc, psts_snoc', eo_p, eo_c, eo_k, eo_len, toPsts_length, dO_eo, eo_mk, ld_br, ld_chk', ld_leaf, fd_br, fd_chk', fd_leaf, decide_true, decide_eq_true_eq, if_true, Int.toNat_natCast, Int.natCast_nonneg, Int.ofNat_lt, Int.ofNat_le, Bool.false_eq_true, if_false, bne_iff_ne, beq_iff_eq, ne_eq, not_true_eq_false, not_false_eq_true, Bool.not_eq_true', decide_eq_false_iff_not, reduceCtorEq, rows_length, pcs_length, er_ok, er_ok', ep_ok, ep_ok', dr_er, dp_ep, isRows_rows, isPcs_pcs, toRows_rows, toPcs_pcs, rows_take, rows_drop, pcs_take, pcs_drop, rows_append, pcs_append, ints_length, isInts_ints, toInts_ints, ei_i, ei_ok, mk_headD, ints_take, ints_drop, ints_append, ints_snoc, ints_snoc', List.take_length, Nat.zero_add, Nat.le_refl, er_a, er_b, er_k, er_n, er_s, er_v, ep_a, ep_b, ep_hk, ep_hn, ep_hs, ep_wk, ep_wn, ep_ws, chs_length]
  by_cases c1 : (60 : Int) < cs.length
  · rw [if_pos c1]
  rw [if_neg c1]
  by_cases h1 : fewP l = true
  · simp only [h1, Bool.true_eq_false, if_false]
    by_cases c2 : (100 : Int) < q.length
    · rw [if_pos c2]
    rw [if_neg c2]
    by_cases c3 : (60 : Int) < s.length
    · rw [if_pos c3]
    rw [if_neg c3]
    refine fd_post ctL_ok (by kernel_rfl) rfl (list_post (p := p12) ctL_ok (b := b12_0) cs.length (fun k (_ : Unit) => s12_0 (chs cs) n (psts l) q (ints s) none false none false none false k) (fun _ _ => True) _ ?_ ?_ 0 (Nat.zero_le _) () trivial)
    · intro k _ hk _
      rw [t12_0]
      simp only [ld_br, ld_chk', ld_leaf, fd_br, fd_chk', fd_leaf, decide_true, decide_eq_true_eq, if_true, Int.toNat_natCast, Int.natCast_nonneg, Int.ofNat_lt, Int.ofNat_le, Bool.false_eq_true, if_false, bne_iff_ne, beq_iff_eq, ne_eq, not_true_eq_false, not_false_eq_true, Bool.not_eq_true', decide_eq_false_iff_not, reduceCtorEq, rows_length, pcs_length, er_ok, er_ok', ep_ok, ep_ok', dr_er, dp_ep, isRows_rows, isPcs_pcs, toRows_rows, toPcs_pcs, rows_take, rows_drop, pcs_take, pcs_drop, rows_append, pcs_append, ints_length, isInts_ints, toInts_ints, ei_i, ei_ok, mk_headD, ints_take, ints_drop, ints_append, ints_snoc, ints_snoc', List.take_length, Nat.zero_add, Nat.le_refl, er_a, er_b, er_k, er_n, er_s, er_v, ep_a, ep_b, ep_hk, ep_hn, ep_hs, ep_wk, ep_wn, ep_ws, hk, chs_length, chs_getD hk, ech_ok, ech_p, ech_h, ech_n, wrap_succ (show k < 9223372036854775807 by omega)]
      have ex0 : p12.fd (p12.fkx 0 x12_0x0) = some (.out [V.b true] []) := by rw [k12_0x0, fd_leaf]
      by_cases g1 : (100 : Int) < cs[k].p.length
      · exact .inr ⟨x12_0x0, by simp, ex0, by rw [if_pos g1]⟩
      · by_cases g2 : (70 : Int) < cs[k].h.length
        · exact .inr ⟨x12_0x0, by simp, ex0, by rw [if_neg g1, if_pos g2]⟩
        · by_cases g3 : (70 : Int) < cs[k].n.length
          · exact .inr ⟨x12_0x0, by simp, ex0, by rw [if_neg g1, if_neg g2, if_pos g3]⟩
          · exact .inl ⟨(), trivial, by rw [if_neg g1, if_neg g2, if_neg g3]⟩
    · intro _ _
      rw [t12_0]
      refine ⟨x12_0x1 (chs cs) n (psts l) q (ints s) none false none false none false cs.length, by simp, ?_, by simp only [ld_br, ld_chk', ld_leaf, fd_br, fd_chk', fd_leaf, decide_true, decide_eq_true_eq, if_true, Int.toNat_natCast, Int.natCast_nonneg, Int.ofNat_lt, Int.ofNat_le, Bool.false_eq_true, if_false, bne_iff_ne, beq_iff_eq, ne_eq, not_true_eq_false, not_false_eq_true, Bool.not_eq_true', decide_eq_false_iff_not, reduceCtorEq, rows_length, pcs_length, er_ok, er_ok', ep_ok, ep_ok', dr_er, dp_ep, isRows_rows, isPcs_pcs, toRows_rows, toPcs_pcs, rows_take, rows_drop, pcs_take, pcs_drop, rows_append, pcs_append, ints_length, isInts_ints, toInts_ints, ei_i, ei_ok, mk_headD, ints_take, ints_drop, ints_append, ints_snoc, ints_snoc', List.take_length, Nat.zero_add, Nat.le_refl, er_a, er_b, er_k, er_n, er_s, er_v, ep_a, ep_b, ep_hk, ep_hn, ep_hs, ep_wk, ep_wn, ep_ws, chs_length, Nat.lt_irrefl]⟩
      rw [k12_0x1]
      have e1 := fewP_len h1
      have e2 := ofC_len cs n
      have e3 := probe_len l q
      have e4 := under_len l q
      have e5 := onP_len l q s
      have e6 : l.length * s.length ≤ 200 * 60 := Nat.mul_le_mul e1 (by omega)
      simp only [psts_length, eo_ok, eo_ok', isPsts_psts, toPsts_psts, psts_take, psts_drop, psts_append, psts_snoc, psts_snoc', eo_p, eo_c, eo_k, eo_len, toPsts_length, dO_eo, eo_mk, ld_br, ld_chk', ld_leaf, fd_br, fd_chk', fd_leaf, decide_true, decide_eq_true_eq, if_true, Int.toNat_natCast, Int.natCast_nonneg, Int.ofNat_lt, Int.ofNat_le, Bool.false_eq_true, if_false, bne_iff_ne, beq_iff_eq, ne_eq, not_true_eq_false, not_false_eq_true, Bool.not_eq_true', decide_eq_false_iff_not, reduceCtorEq, rows_length, pcs_length, er_ok, er_ok', ep_ok, ep_ok', dr_er, dp_ep, isRows_rows, isPcs_pcs, toRows_rows, toPcs_pcs, rows_take, rows_drop, pcs_take, pcs_drop, rows_append, pcs_append, ints_length, isInts_ints, toInts_ints, ei_i, ei_ok, mk_headD, ints_take, ints_drop, ints_append, ints_snoc, ints_snoc', List.take_length, Nat.zero_add, Nat.le_refl, er_a, er_b, er_k, er_n, er_s, er_v, ep_a, ep_b, ep_hk, ep_hn, ep_hs, ep_wk, ep_wn, ep_ws, chs_length, toChs_chs, isChs_chs, isInts_ints, toInts_ints, ints_length]
      simp [show cs.length < 4294967290 by omega, show (ofC cs n).1.length < 4294967296 by omega, show l.length < 4294967296 by omega, show l.length < 4294967290 by omega, show l.length < 1000000 by omega, show (probeP l q).length < 4294967296 by omega, show (underP l q).length < 4294967296 by omega, show l.length < 1000 by omega, show s.length < 1000 by omega, show s.length < 4294967290 by omega, show (onP l q s).length < 4294967296 by omega]
  · rw [Bool.not_eq_true] at h1
    simp only [h1, if_true]
end Go.Proofs.YtbilmkcdhodenaaDoor

end

/-
  Chapter 13 (posting): the laws, but for their arguments' reading: PostingAll, PostingParts.
-/
section
namespace Go.Proofs.YtbilmkcdhodenaaDoor
open Go Go.Ev

theorem mem_take_succ {z : List Pst} {x : Pst} {j : Nat} (h : j < z.length) : decide (x ∈ z.take (j + 1)) = (decide (x ∈ z.take j) || decide (z[j] = x)) := by
  rw [List.take_succ, List.getElem?_eq_getElem h, Bool.eq_iff_iff]
  simp only [List.mem_append, Option.toList_some, List.mem_singleton, Bool.or_eq_true, decide_eq_true_eq]
  exact ⟨fun h => h.imp id Eq.symm, fun h => h.imp id Eq.symm⟩
/-- What is looked for along a list; so far, it was found or not. -/
def fnd (b : Bool) (z : List Pst) (x : Pst) (j : Nat) : Bool := b || decide (x ∈ z.take j)
theorem fnd_succ (b : Bool) {z : List Pst} {x : Pst} {j : Nat} (h : j < z.length) : fnd b z x (j + 1) = (fnd b z x j || decide (z[j] = x)) := by
  unfold fnd; rw [mem_take_succ h, Bool.or_assoc]
theorem f11 (l m : List Pst) (q : List UInt8) : call E 11 [.c (.sl 3 none false (psts l)), .c (.sl 3 none false (psts m)), .c (.str q)] [] = some ([V.b true], []) := by
  refine call_of (E := E) (sh := sh) (ct := ctL) (na := 3) (m := 0) ctL_ok rfl rfl rfl rfl rfl rfl ?_
  rw [t11]
  simp only [psts_length, eo_ok, eo_ok', isPsts_psts, toPsts_psts, psts_take, psts_drop, psts_append, psts_snoc, psts_snoc', eo_p, eo_c, eo_k, eo_len, toPsts_length, dO_eo, eo_mk, ld_br, ld_chk', ld_leaf, fd_br, fd_chk', fd_leaf, decide_true, decide_eq_true_eq, if_true, Int.toNat_natCast, Int.natCast_nonneg, Int.ofNat_lt, Int.ofNat_le, Bool.false_eq_true, if_false, bne_iff_ne, beq_iff_eq, ne_eq, not_true_eq_false, not_false_eq_true, Bool.not_eq_true', decide_eq_false_iff_not, reduceCtorEq, rows_length, pcs_length, er_ok, er_ok', ep_ok, ep_ok', dr_er, dp_ep, isRows_rows, isPcs_pcs, toRows_rows, toPcs_pcs, rows_take, rows_drop, pcs_take, pcs_drop, rows_append, pcs_append, ints_length, isInts_ints, toInts_ints, ei_i, ei_ok, mk_headD, ints_take, ints_drop, ints_append, ints_snoc, ints_snoc', List.take_length, Nat.zero_add, Nat.le_refl, er_a, er_b, er_k, er_n, er_s, er_v, ep_a, ep_b, ep_hk, ep_hn, ep_hs, ep_wk, ep_wn, ep_ws]
  by_cases h1 : fewP l = true
  case neg => rw [Bool.not_eq_true] at h1; simp only [h1, if_true]
  by_cases h2 : fewP m = true
  case neg => rw [Bool.not_eq_true] at h2; simp only [h1, h2, Bool.true_eq_false, if_false, if_true]
  simp only [h1, h2, Bool.true_eq_false, if_false]
  by_cases c1 : (100 : Int) < q.length
  · rw [if_pos c1]
  rw [if_neg c1]
  have e1 := fewP_len h1
  have e2 := fewP_len h2
  have e3 := addP_len l m
  rw [addP_comm m l]
  simp only [show l.length + m.length < 4294967296 by omega, show m.length + l.length < 4294967296 by omega, show (addP l m).1.length < 4294967296 by omega, show l.length < 4294967296 by omega, show m.length < 4294967296 by omega, if_true, not_true_eq_false, if_false, psts_length, eo_ok, eo_ok', isPsts_psts, toPsts_psts, psts_take, psts_drop, psts_append, psts_snoc, psts_snoc', eo_p, eo_c, eo_k, eo_len, toPsts_length, dO_eo, eo_mk, ld_br, ld_chk', ld_leaf, fd_br, fd_chk', fd_leaf, decide_true, decide_eq_true_eq, if_true, Int.toNat_natCast, Int.natCast_nonneg, Int.ofNat_lt, Int.ofNat_le, Bool.false_eq_true, if_false, bne_iff_ne, beq_iff_eq, ne_eq, not_true_eq_false, not_false_eq_true, Bool.not_eq_true', decide_eq_false_iff_not, reduceCtorEq, rows_length, pcs_length, er_ok, er_ok', ep_ok, ep_ok', dr_er, dp_ep, isRows_rows, isPcs_pcs, toRows_rows, toPcs_pcs, rows_take, rows_drop, pcs_take, pcs_drop, rows_append, pcs_append, ints_length, isInts_ints, toInts_ints, ei_i, ei_ok, mk_headD, ints_take, ints_drop, ints_append, ints_snoc, ints_snoc', List.take_length, Nat.zero_add, Nat.le_refl, er_a, er_b, er_k, er_n, er_s, er_v, ep_a, ep_b, ep_hk, ep_hn, ep_hs, ep_wk, ep_wn, ep_ws]
  by_cases he : (addP l m).2 = 0
  case neg =>
    rw [if_pos he, addP_err he]
    simp
  rw [if_neg (fun h => h he)]
  obtain ⟨hl, hm, hp, ha⟩ := addP_ok he
  have hpr := probe_add he q
  obtain ⟨x, hx⟩ : ∃ x, x = probeP (addP l m).1 q := ⟨_, rfl⟩
  obtain ⟨y, hy⟩ : ∃ y, y = probeP l q := ⟨_, rfl⟩
  obtain ⟨z, hz⟩ : ∃ z, z = probeP m q := ⟨_, rfl⟩
  have hnext : ∀ k, ∀ h : k + 1 < x.length, x[k].c < x[k + 1].c := by subst hx; exact fun k h => probe_next h
  have hpath : ∀ v ∈ x, v.p = q := by subst hx; exact fun v h => probe_p h
  have ly := probe_len l q
  have lz := probe_len m q
  rw [← hx, ← hy, ← hz] at hpr ⊢
  rw [← hy] at ly
  rw [← hz] at lz
  have hxl : x.length = y.length + z.length := by rw [hpr.length_eq]; simp
  have hal : (addP l m).1.length = l.length + m.length := by rw [hp.length_eq]; simp
  generalize (addP l m).1 = a at *
  clear hx hy hz
  refine fd_post ctL_ok (by kernel_rfl) rfl (list_post (p := p11) ctL_ok (b := b11_0) x.length (fun k (_ : Unit) => s11_0 (psts l) (psts m) q none false none false none false (psts a) none false (psts x) none false (psts y) none false (psts z) k) (fun _ _ => True) _ ?_ ?_ 0 (Nat.zero_le _) () trivial)
  · intro k _ hk _
    refine .inl ⟨(), trivial, ?_⟩
    rw [t11_0]
    simp only [ld_br, psts_length, Int.ofNat_lt, decide_eq_true_eq, hk, if_true]
    refine ld_post (p := p11) ctL_ok (by kernel_rfl) rfl (list_post (p := p11) ctL_ok (b := b11_0_0) y.length (fun j (_ : Unit) => s11_0_0 (psts l) (psts m) q none false none false none false (psts a) none false (psts x) none false (psts y) none false (psts z) k (fnd false y x[k] j) j) (fun _ _ => True) _ ?_ ?_ 0 (Nat.zero_le _) () trivial)
    · intro j _ hj _
      refine .inl ⟨(), trivial, ?_⟩
      rw [t11_0_0]
      simp only [psts_length, eo_ok, eo_ok', isPsts_psts, toPsts_psts, psts_take, psts_drop, psts_append, psts_snoc, psts_snoc', eo_p, eo_c, eo_k, eo_len, toPsts_length, dO_eo, eo_mk, ld_br, ld_chk', ld_leaf, fd_br, fd_chk', fd_leaf, decide_true, decide_eq_true_eq, if_true, Int.toNat_natCast, Int.natCast_nonneg, Int.ofNat_lt, Int.ofNat_le, Bool.false_eq_true, if_false, bne_iff_ne, beq_iff_eq, ne_eq, not_true_eq_false, not_false_eq_true, Bool.not_eq_true', decide_eq_false_iff_not, reduceCtorEq, rows_length, pcs_length, er_ok, er_ok', ep_ok, ep_ok', dr_er, dp_ep, isRows_rows, isPcs_pcs, toRows_rows, toPcs_pcs, rows_take, rows_drop, pcs_take, pcs_drop, rows_append, pcs_append, ints_length, isInts_ints, toInts_ints, ei_i, ei_ok, mk_headD, ints_take, ints_drop, ints_append, ints_snoc, ints_snoc', List.take_length, Nat.zero_add, Nat.le_refl, er_a, er_b, er_k, er_n, er_s, er_v, ep_a, ep_b, ep_hk, ep_hn, ep_hs, ep_wk, ep_wn, ep_ws, hj, hk, psts_getD hj, psts_getD hk, pst_eqb, wrap_succ (show j < 9223372036854775807 by omega), fnd_succ false hj]
      cases fnd false y x[k] j <;> simp
    · intro _ _
      rw [t11_0_0]
      refine ⟨x11_0_0x0 (psts l) (psts m) q none false none false none false (psts a) none false (psts x) none false (psts y) none false (psts z) k (fnd false y x[k] y.length) y.length, by simp, ?_, by simp only [psts_length, eo_ok, eo_ok', isPsts_psts, toPsts_psts, psts_take, psts_drop, psts_append, psts_snoc, psts_snoc', eo_p, eo_c, eo_k, eo_len, toPsts_length, dO_eo, eo_mk, ld_br, ld_chk', ld_leaf, fd_br, fd_chk', fd_leaf, decide_true, decide_eq_true_eq, if_true, Int.toNat_natCast, Int.natCast_nonneg, Int.ofNat_lt, Int.ofNat_le, Bool.false_eq_true, if_false, bne_iff_ne, beq_iff_eq, ne_eq, not_true_eq_false, not_false_eq_true, Bool.not_eq_true', decide_eq_false_iff_not, reduceCtorEq, rows_length, pcs_length, er_ok, er_ok', ep_ok, ep_ok', dr_er, dp_ep, isRows_rows, isPcs_pcs, toRows_rows, toPcs_pcs, rows_take, rows_drop, pcs_take, pcs_drop, rows_append, pcs_append, ints_length, isInts_ints, toInts_ints, ei_i, ei_ok, mk_headD, ints_take, ints_drop, ints_append, ints_snoc, ints_snoc', List.take_length, Nat.zero_add, Nat.le_refl, er_a, er_b, er_k, er_n, er_s, er_v, ep_a, ep_b, ep_hk, ep_hn, ep_hs, ep_wk, ep_wn, ep_ws, Nat.lt_irrefl]⟩
      rw [k11_0_0x0]
      have hb1 : fnd (fnd false y x[k] y.length) z x[k] z.length = true := by
        have hm : x[k] ∈ y ++ z := hpr.mem_iff.1 (List.getElem_mem hk)
        rw [List.mem_append] at hm
        simp only [fnd, List.take_length, Bool.false_or, Bool.or_eq_true, decide_eq_true_eq]
        exact hm
      generalize fnd false y x[k] y.length = b at hb1
      have e0 : fnd b z x[k] 0 = b := by simp [fnd]
      refine ld_post (p := p11) ctL_ok (by kernel_rfl) rfl ?_
      have key := list_post (p := p11) ctL_ok (b := b11_0_1) z.length (fun j (_ : Unit) => s11_0_1 (psts l) (psts m) q none false none false none false (psts a) none false (psts x) none false (psts y) none false (psts z) k (fnd b z x[k] j) j) (fun _ _ => True) (fun w => p11.ld b11_0 (p11.lkx b11_0 1 w) = some (R.s (s11_0 (psts l) (psts m) q none false none false none false (psts a) none false (psts x) none false (psts y) none false (psts z) ((k + 1 : Nat) : Int)))) ?_ ?_ 0 (Nat.zero_le _) () trivial
      · simp only [e0] at key
        exact key
      · intro j _ hj _
        refine .inl ⟨(), trivial, ?_⟩
        rw [t11_0_1]
        simp only [psts_length, eo_ok, eo_ok', isPsts_psts, toPsts_psts, psts_take, psts_drop, psts_append, psts_snoc, psts_snoc', eo_p, eo_c, eo_k, eo_len, toPsts_length, dO_eo, eo_mk, ld_br, ld_chk', ld_leaf, fd_br, fd_chk', fd_leaf, decide_true, decide_eq_true_eq, if_true, Int.toNat_natCast, Int.natCast_nonneg, Int.ofNat_lt, Int.ofNat_le, Bool.false_eq_true, if_false, bne_iff_ne, beq_iff_eq, ne_eq, not_true_eq_false, not_false_eq_true, Bool.not_eq_true', decide_eq_false_iff_not, reduceCtorEq, rows_length, pcs_length, er_ok, er_ok', ep_ok, ep_ok', dr_er, dp_ep, isRows_rows, isPcs_pcs, toRows_rows, toPcs_pcs, rows_take, rows_drop, pcs_take, pcs_drop, rows_append, pcs_append, ints_length, isInts_ints, toInts_ints, ei_i, ei_ok, mk_headD, ints_take, ints_drop, ints_append, ints_snoc, ints_snoc', List.take_length, Nat.zero_add, Nat.le_refl, er_a, er_b, er_k, er_n, er_s, er_v, ep_a, ep_b, ep_hk, ep_hn, ep_hs, ep_wk, ep_wn, ep_ws, hj, hk, psts_getD hj, psts_getD hk, pst_eqb, wrap_succ (show j < 9223372036854775807 by omega), fnd_succ b hj]
        cases fnd b z x[k] j <;> simp
      · intro _ _
        rw [t11_0_1]
        refine ⟨x11_0_1x0 (psts l) (psts m) q none false none false none false (psts a) none false (psts x) none false (psts y) none false (psts z) k (fnd b z x[k] z.length) z.length, by simp, ?_, by simp only [psts_length, eo_ok, eo_ok', isPsts_psts, toPsts_psts, psts_take, psts_drop, psts_append, psts_snoc, psts_snoc', eo_p, eo_c, eo_k, eo_len, toPsts_length, dO_eo, eo_mk, ld_br, ld_chk', ld_leaf, fd_br, fd_chk', fd_leaf, decide_true, decide_eq_true_eq, if_true, Int.toNat_natCast, Int.natCast_nonneg, Int.ofNat_lt, Int.ofNat_le, Bool.false_eq_true, if_false, bne_iff_ne, beq_iff_eq, ne_eq, not_true_eq_false, not_false_eq_true, Bool.not_eq_true', decide_eq_false_iff_not, reduceCtorEq, rows_length, pcs_length, er_ok, er_ok', ep_ok, ep_ok', dr_er, dp_ep, isRows_rows, isPcs_pcs, toRows_rows, toPcs_pcs, rows_take, rows_drop, pcs_take, pcs_drop, rows_append, pcs_append, ints_length, isInts_ints, toInts_ints, ei_i, ei_ok, mk_headD, ints_take, ints_drop, ints_append, ints_snoc, ints_snoc', List.take_length, Nat.zero_add, Nat.le_refl, er_a, er_b, er_k, er_n, er_s, er_v, ep_a, ep_b, ep_hk, ep_hn, ep_hs, ep_wk, ep_wn, ep_ws, Nat.lt_irrefl]⟩
        rw [hb1, k11_0_1x0]
        have hpk := hpath x[k] (List.getElem_mem hk)
        simp only [psts_length, eo_ok, eo_ok', isPsts_psts, toPsts_psts, psts_take, psts_drop, psts_append, psts_snoc, psts_snoc', eo_p, eo_c, eo_k, eo_len, toPsts_length, dO_eo, eo_mk, ld_br, ld_chk', ld_leaf, fd_br, fd_chk', fd_leaf, decide_true, decide_eq_true_eq, if_true, Int.toNat_natCast, Int.natCast_nonneg, Int.ofNat_lt, Int.ofNat_le, Bool.false_eq_true, if_false, bne_iff_ne, beq_iff_eq, ne_eq, not_true_eq_false, not_false_eq_true, Bool.not_eq_true', decide_eq_false_iff_not, reduceCtorEq, rows_length, pcs_length, er_ok, er_ok', ep_ok, ep_ok', dr_er, dp_ep, isRows_rows, isPcs_pcs, toRows_rows, toPcs_pcs, rows_take, rows_drop, pcs_take, pcs_drop, rows_append, pcs_append, ints_length, isInts_ints, toInts_ints, ei_i, ei_ok, mk_headD, ints_take, ints_drop, ints_append, ints_snoc, ints_snoc', List.take_length, Nat.zero_add, Nat.le_refl, er_a, er_b, er_k, er_n, er_s, er_v, ep_a, ep_b, ep_hk, ep_hn, ep_hs, ep_wk, ep_wn, ep_ws, hk, psts_getD hk, hpk, wrap_succ (show k < 9223372036854775807 by omega), Bool.true_eq_false]
        cases k with
        | zero => simp
        | succ k =>
          have hk' : k < x.length := by omega
          have hn := hnext k hk
          simp only [wrap_pred (show 0 < k + 1 by omega) (show k + 1 < 9223372036854775807 by omega), Nat.add_sub_cancel, psts_length, eo_ok, eo_ok', isPsts_psts, toPsts_psts, psts_take, psts_drop, psts_append, psts_snoc, psts_snoc', eo_p, eo_c, eo_k, eo_len, toPsts_length, dO_eo, eo_mk, ld_br, ld_chk', ld_leaf, fd_br, fd_chk', fd_leaf, decide_true, decide_eq_true_eq, if_true, Int.toNat_natCast, Int.natCast_nonneg, Int.ofNat_lt, Int.ofNat_le, Bool.false_eq_true, if_false, bne_iff_ne, beq_iff_eq, ne_eq, not_true_eq_false, not_false_eq_true, Bool.not_eq_true', decide_eq_false_iff_not, reduceCtorEq, rows_length, pcs_length, er_ok, er_ok', ep_ok, ep_ok', dr_er, dp_ep, isRows_rows, isPcs_pcs, toRows_rows, toPcs_pcs, rows_take, rows_drop, pcs_take, pcs_drop, rows_append, pcs_append, ints_length, isInts_ints, toInts_ints, ei_i, ei_ok, mk_headD, ints_take, ints_drop, ints_append, ints_snoc, ints_snoc', List.take_length, Nat.zero_add, Nat.le_refl, er_a, er_b, er_k, er_n, er_s, er_v, ep_a, ep_b, ep_hk, ep_hn, ep_hs, ep_wk, ep_wn, ep_ws, hk', psts_getD hk', show (0 : Int) < ((k + 1 : Nat) : Int) by omega]
          rw [if_neg (show ¬ x[k + 1].c ≤ x[k].c by omega)]
          simp
  · intro _ _
    rw [t11_0]
    refine ⟨x11_0x1 (psts l) (psts m) q none false none false none false (psts a) none false (psts x) none false (psts y) none false (psts z) x.length, by simp, ?_, by simp only [psts_length, eo_ok, eo_ok', isPsts_psts, toPsts_psts, psts_take, psts_drop, psts_append, psts_snoc, psts_snoc', eo_p, eo_c, eo_k, eo_len, toPsts_length, dO_eo, eo_mk, ld_br, ld_chk', ld_leaf, fd_br, fd_chk', fd_leaf, decide_true, decide_eq_true_eq, if_true, Int.toNat_natCast, Int.natCast_nonneg, Int.ofNat_lt, Int.ofNat_le, Bool.false_eq_true, if_false, bne_iff_ne, beq_iff_eq, ne_eq, not_true_eq_false, not_false_eq_true, Bool.not_eq_true', decide_eq_false_iff_not, reduceCtorEq, rows_length, pcs_length, er_ok, er_ok', ep_ok, ep_ok', dr_er, dp_ep, isRows_rows, isPcs_pcs, toRows_rows, toPcs_pcs, rows_take, rows_drop, pcs_take, pcs_drop, rows_append, pcs_append, ints_length, isInts_ints, toInts_ints, ei_i, ei_ok, mk_headD, ints_take, ints_drop, ints_append, ints_snoc, ints_snoc', List.take_length, Nat.zero_add, Nat.le_refl, er_a, er_b, er_k, er_n, er_s, er_v, ep_a, ep_b, ep_hk, ep_hn, ep_hs, ep_wk, ep_wn, ep_ws, Nat.lt_irrefl]⟩
    rw [k11_0x1]
    have w1 : IntKind.wrap .i64 ((y.length : Int) + (z.length : Int)) = ((y.length + z.length : Nat) : Int) := by rw [wrap_same (by omega) (by omega)]; omega
    have w2 : IntKind.wrap .i64 ((l.length : Int) + (m.length : Int)) = ((l.length + m.length : Nat) : Int) := by rw [wrap_same (by omega) (by omega)]; omega
    have hck : checkP a = 0 := if_pos ha
    simp only [psts_length, eo_ok, eo_ok', isPsts_psts, toPsts_psts, psts_take, psts_drop, psts_append, psts_snoc, psts_snoc', eo_p, eo_c, eo_k, eo_len, toPsts_length, dO_eo, eo_mk, ld_br, ld_chk', ld_leaf, fd_br, fd_chk', fd_leaf, decide_true, decide_eq_true_eq, if_true, Int.toNat_natCast, Int.natCast_nonneg, Int.ofNat_lt, Int.ofNat_le, Bool.false_eq_true, if_false, bne_iff_ne, beq_iff_eq, ne_eq, not_true_eq_false, not_false_eq_true, Bool.not_eq_true', decide_eq_false_iff_not, reduceCtorEq, rows_length, pcs_length, er_ok, er_ok', ep_ok, ep_ok', dr_er, dp_ep, isRows_rows, isPcs_pcs, toRows_rows, toPcs_pcs, rows_take, rows_drop, pcs_take, pcs_drop, rows_append, pcs_append, ints_length, isInts_ints, toInts_ints, ei_i, ei_ok, mk_headD, ints_take, ints_drop, ints_append, ints_snoc, ints_snoc', List.take_length, Nat.zero_add, Nat.le_refl, er_a, er_b, er_k, er_n, er_s, er_v, ep_a, ep_b, ep_hk, ep_hn, ep_hs, ep_wk, ep_wn, ep_ws, w1, w2, hxl, hal, hck, show l.length + m.length < 4294967296 by omega]
theorem f13 (l : List Pst) (q : List UInt8) : call E 13 [.c (.sl 3 none false (psts l)), .c (.str q)] [] = some ([V.b true], []) := by
  refine call_of (E := E) (sh := sh) (ct := ctL) (na := 2) (m := 0) ctL_ok rfl rfl rfl rfl rfl rfl ?_
  rw [t13]
  simp only [psts_length, eo_ok, eo_ok', isPsts_psts, toPsts_psts, psts_take, psts_drop, psts_append, psts_snoc, psts_snoc', eo_p, eo_c, eo_k, eo_len, toPsts_length, dO_eo, eo_mk, ld_br, ld_chk', ld_leaf, fd_br, fd_chk', fd_leaf, decide_true, decide_eq_true_eq, if_true, Int.toNat_natCast, Int.natCast_nonneg, Int.ofNat_lt, Int.ofNat_le, Bool.false_eq_true, if_false, bne_iff_ne, beq_iff_eq, ne_eq, not_true_eq_false, not_false_eq_true, Bool.not_eq_true', decide_eq_false_iff_not, reduceCtorEq, rows_length, pcs_length, er_ok, er_ok', ep_ok, ep_ok', dr_er, dp_ep, isRows_rows, isPcs_pcs, toRows_rows, toPcs_pcs, rows_take, rows_drop, pcs_take, pcs_drop, rows_append, pcs_append, ints_length, isInts_ints, toInts_ints, ei_i, ei_ok, mk_headD, ints_take, ints_drop, ints_append, ints_snoc, ints_snoc', List.take_length, Nat.zero_add, Nat.le_refl, er_a, er_b, er_k, er_n, er_s, er_v, ep_a, ep_b, ep_hk, ep_hn, ep_hs, ep_wk, ep_wn, ep_ws]
  by_cases h1 : fewP l = true
  case neg => rw [Bool.not_eq_true] at h1; simp only [h1, if_true]
  simp only [h1, Bool.true_eq_false, if_false]
  by_cases c1 : (100 : Int) < q.length
  · rw [if_pos c1]
  rw [if_neg c1]
  have e1 := fewP_len h1
  simp only [show l.length < 4294967296 by omega, show l.length < 4294967290 by omega, if_true]
  by_cases ho : okP l = true
  case neg =>
    have : checkP l ≠ 0 := by unfold checkP; rw [if_neg ho]; decide
    rw [if_pos this]
  have hc0 : checkP l = 0 := if_pos ho
  rw [if_neg (fun h => h hc0)]
  have hu : underP l q = l.filter fun x => begins x.p q := if_pos ho
  have lu := under_len l q
  refine fd_post ctL_ok (by kernel_rfl) rfl (list_post (p := p13) ctL_ok (b := b13_0) l.length (fun k (_ : Unit) => s13_0 (psts l) q none false none false (psts (underP l q)) (((l.take k).filter fun x => begins x.p q).length : Int) k) (fun _ _ => True) _ ?_ ?_ 0 (Nat.zero_le _) () trivial)
  · intro k _ hk _
    refine .inl ⟨(), trivial, ?_⟩
    have hfl := filter_len (l := l) (fun x => begins x.p q) k
    have hle : ((l.take k).filter fun x => begins x.p q).length ≤ k := hfl
    rw [t13_0]
    simp only [psts_length, eo_ok, eo_ok', isPsts_psts, toPsts_psts, psts_take, psts_drop, psts_append, psts_snoc, psts_snoc', eo_p, eo_c, eo_k, eo_len, toPsts_length, dO_eo, eo_mk, ld_br, ld_chk', ld_leaf, fd_br, fd_chk', fd_leaf, decide_true, decide_eq_true_eq, if_true, Int.toNat_natCast, Int.natCast_nonneg, Int.ofNat_lt, Int.ofNat_le, Bool.false_eq_true, if_false, bne_iff_ne, beq_iff_eq, ne_eq, not_true_eq_false, not_false_eq_true, Bool.not_eq_true', decide_eq_false_iff_not, reduceCtorEq, rows_length, pcs_length, er_ok, er_ok', ep_ok, ep_ok', dr_er, dp_ep, isRows_rows, isPcs_pcs, toRows_rows, toPcs_pcs, rows_take, rows_drop, pcs_take, pcs_drop, rows_append, pcs_append, ints_length, isInts_ints, toInts_ints, ei_i, ei_ok, mk_headD, ints_take, ints_drop, ints_append, ints_snoc, ints_snoc', List.take_length, Nat.zero_add, Nat.le_refl, er_a, er_b, er_k, er_n, er_s, er_v, ep_a, ep_b, ep_hk, ep_hn, ep_hs, ep_wk, ep_wn, ep_ws, hk, psts_getD hk, wrap_succ (show k < 9223372036854775807 by omega), pst_eqb]
    by_cases g : begins l[k].p q = true
    · have g' := g
      simp only [begins, Bool.and_eq_true, decide_eq_true_eq] at g'
      have hat := filter_at (P := fun x => begins x.p q) hk g
      obtain ⟨hn, hv⟩ := List.getElem?_eq_some_iff.1 hat
      rw [← hu] at hn
      have hv' : (underP l q)[((l.take k).filter fun x => begins x.p q).length] = l[k] := by
        simp only [hu]; exact hv
      rw [filter_take_succ _ hk, if_pos g, List.length_append, List.length_singleton]
      generalize ((l.take k).filter fun x => begins x.p q).length = n at *
      simp only [g'.1, g'.2, if_true, psts_getD hn, hn, hv', eo_ok', eo_p, eo_c, eo_k, pst_eqb, decide_true, Bool.not_true, Bool.false_eq_true, if_false, show ¬ (underP l q).length ≤ n by omega, Bool.true_eq_false, wrap_succ (show n < 9223372036854775807 by omega)]
    · rw [filter_take_succ _ hk, if_neg g, List.append_nil]
      have g' : ¬ (q.length ≤ l[k].p.length ∧ List.take q.length l[k].p = q) := fun h => g (by simp only [begins, Bool.and_eq_true, decide_eq_true_eq]; exact h)
      by_cases c : q.length ≤ l[k].p.length
      · rw [if_pos c, if_pos c, if_neg (fun h => g' ⟨c, h⟩)]
      · rw [if_neg c]
  · intro _ _
    rw [t13_0]
    refine ⟨x13_0x1 (psts l) q none false none false (psts (underP l q)) (((l.take l.length).filter fun x => begins x.p q).length : Int) l.length, by simp, ?_, by simp only [psts_length, eo_ok, eo_ok', isPsts_psts, toPsts_psts, psts_take, psts_drop, psts_append, psts_snoc, psts_snoc', eo_p, eo_c, eo_k, eo_len, toPsts_length, dO_eo, eo_mk, ld_br, ld_chk', ld_leaf, fd_br, fd_chk', fd_leaf, decide_true, decide_eq_true_eq, if_true, Int.toNat_natCast, Int.natCast_nonneg, Int.ofNat_lt, Int.ofNat_le, Bool.false_eq_true, if_false, bne_iff_ne, beq_iff_eq, ne_eq, not_true_eq_false, not_false_eq_true, Bool.not_eq_true', decide_eq_false_iff_not, reduceCtorEq, rows_length, pcs_length, er_ok, er_ok', ep_ok, ep_ok', dr_er, dp_ep, isRows_rows, isPcs_pcs, toRows_rows, toPcs_pcs, rows_take, rows_drop, pcs_take, pcs_drop, rows_append, pcs_append, ints_length, isInts_ints, toInts_ints, ei_i, ei_ok, mk_headD, ints_take, ints_drop, ints_append, ints_snoc, ints_snoc', List.take_length, Nat.zero_add, Nat.le_refl, er_a, er_b, er_k, er_n, er_s, er_v, ep_a, ep_b, ep_hk, ep_hn, ep_hs, ep_wk, ep_wn, ep_ws, Nat.lt_irrefl]⟩
    rw [k13_0x1, List.take_length, ← hu]
    have lp := probe_len l q
    simp only [psts_length, eo_ok, eo_ok', isPsts_psts, toPsts_psts, psts_take, psts_drop, psts_append, psts_snoc, psts_snoc', eo_p, eo_c, eo_k, eo_len, toPsts_length, dO_eo, eo_mk, ld_br, ld_chk', ld_leaf, fd_br, fd_chk', fd_leaf, decide_true, decide_eq_true_eq, if_true, Int.toNat_natCast, Int.natCast_nonneg, Int.ofNat_lt, Int.ofNat_le, Bool.false_eq_true, if_false, bne_iff_ne, beq_iff_eq, ne_eq, not_true_eq_false, not_false_eq_true, Bool.not_eq_true', decide_eq_false_iff_not, reduceCtorEq, rows_length, pcs_length, er_ok, er_ok', ep_ok, ep_ok', dr_er, dp_ep, isRows_rows, isPcs_pcs, toRows_rows, toPcs_pcs, rows_take, rows_drop, pcs_take, pcs_drop, rows_append, pcs_append, ints_length, isInts_ints, toInts_ints, ei_i, ei_ok, mk_headD, ints_take, ints_drop, ints_append, ints_snoc, ints_snoc', List.take_length, Nat.zero_add, Nat.le_refl, er_a, er_b, er_k, er_n, er_s, er_v, ep_a, ep_b, ep_hk, ep_hn, ep_hs, ep_wk, ep_wn, ep_ws, show l.length < 4294967296 by omega]
    obtain ⟨x, hx⟩ : ∃ x, x = probeP l q := ⟨_, rfl⟩
    have hself : onP l q (x.map fun y => y.c) = x := by rw [hx]; exact onP_self l q
    rw [← hx] at lp ⊢
    clear hx
    refine fd_post (p := p13) ctL_ok (by kernel_rfl) rfl (list_post (p := p13) ctL_ok (b := b13_1) x.length (fun k (_ : Unit) => s13_1 (psts l) q none false none false (psts (underP l q)) (underP l q).length none false (psts x) k k (ints ((x.take k).map fun y => y.c))) (fun _ _ => True) _ ?_ ?_ 0 (Nat.zero_le _) () trivial)
    · intro k _ hk _
      refine .inl ⟨(), trivial, ?_⟩
      rw [t13_1]
      have ht : List.take k (ints ((x.take k).map fun y => y.c)) = ints ((x.take k).map fun y => y.c) := by
        have : (ints ((x.take k).map fun y => y.c)).length = k := by simp; omega
        conv => lhs; rw [← this]
        rw [this]
        exact List.take_of_length_le (by omega)
      have hs : (x.take (k + 1)).map (fun y => y.c) = (x.take k).map (fun y => y.c) ++ [x[k].c] := by
        rw [List.take_succ, List.getElem?_eq_getElem hk]
        simp only [List.map_append, Option.toList_some, List.map_cons, List.map_nil]
      have hm : (Sk.int IntKind.i64).mk ((eo x[k]).tail.headD C.pnil) = C.int .i64 x[k].c := rfl
      rw [hs]
      simp only [psts_length, eo_ok, eo_ok', isPsts_psts, toPsts_psts, psts_take, psts_drop, psts_append, psts_snoc, psts_snoc', eo_p, eo_c, eo_k, eo_len, toPsts_length, dO_eo, eo_mk, ld_br, ld_chk', ld_leaf, fd_br, fd_chk', fd_leaf, decide_true, decide_eq_true_eq, if_true, Int.toNat_natCast, Int.natCast_nonneg, Int.ofNat_lt, Int.ofNat_le, Bool.false_eq_true, if_false, bne_iff_ne, beq_iff_eq, ne_eq, not_true_eq_false, not_false_eq_true, Bool.not_eq_true', decide_eq_false_iff_not, reduceCtorEq, rows_length, pcs_length, er_ok, er_ok', ep_ok, ep_ok', dr_er, dp_ep, isRows_rows, isPcs_pcs, toRows_rows, toPcs_pcs, rows_take, rows_drop, pcs_take, pcs_drop, rows_append, pcs_append, ints_length, isInts_ints, toInts_ints, ei_i, ei_ok, mk_headD, ints_take, ints_drop, ints_append, ints_snoc, ints_snoc', List.take_length, Nat.zero_add, Nat.le_refl, er_a, er_b, er_k, er_n, er_s, er_v, ep_a, ep_b, ep_hk, ep_hn, ep_hs, ep_wk, ep_wn, ep_ws, hk, psts_getD hk, wrap_succ (show k < 9223372036854775807 by omega), ht, show k + 1 < 4294967296 by omega, hm]
    · intro _ _
      rw [t13_1]
      refine ⟨x13_1x0 (psts l) q none false none false (psts (underP l q)) (underP l q).length none false (psts x) x.length x.length (ints ((x.take x.length).map fun y => y.c)), by simp, ?_, by simp only [psts_length, eo_ok, eo_ok', isPsts_psts, toPsts_psts, psts_take, psts_drop, psts_append, psts_snoc, psts_snoc', eo_p, eo_c, eo_k, eo_len, toPsts_length, dO_eo, eo_mk, ld_br, ld_chk', ld_leaf, fd_br, fd_chk', fd_leaf, decide_true, decide_eq_true_eq, if_true, Int.toNat_natCast, Int.natCast_nonneg, Int.ofNat_lt, Int.ofNat_le, Bool.false_eq_true, if_false, bne_iff_ne, beq_iff_eq, ne_eq, not_true_eq_false, not_false_eq_true, Bool.not_eq_true', decide_eq_false_iff_not, reduceCtorEq, rows_length, pcs_length, er_ok, er_ok', ep_ok, ep_ok', dr_er, dp_ep, isRows_rows, isPcs_pcs, toRows_rows, toPcs_pcs, rows_take, rows_drop, pcs_take, pcs_drop, rows_append, pcs_append, ints_length, isInts_ints, toInts_ints, ei_i, ei_ok, mk_headD, ints_take, ints_drop, ints_append, ints_snoc, ints_snoc', List.take_length, Nat.zero_add, Nat.le_refl, er_a, er_b, er_k, er_n, er_s, er_v, ep_a, ep_b, ep_hk, ep_hn, ep_hs, ep_wk, ep_wn, ep_ws, Nat.lt_irrefl]⟩
      rw [k13_1x0, List.take_length]
      have hil : (ints (x.map fun y => y.c)).length = x.length := by simp
      have ht : List.take x.length (ints (x.map fun y => y.c)) = ints (x.map fun y => y.c) := List.take_of_length_le (by omega)
      simp only [ht, psts_length, eo_ok, eo_ok', isPsts_psts, toPsts_psts, psts_take, psts_drop, psts_append, psts_snoc, psts_snoc', eo_p, eo_c, eo_k, eo_len, toPsts_length, dO_eo, eo_mk, ld_br, ld_chk', ld_leaf, fd_br, fd_chk', fd_leaf, decide_true, decide_eq_true_eq, if_true, Int.toNat_natCast, Int.natCast_nonneg, Int.ofNat_lt, Int.ofNat_le, Bool.false_eq_true, if_false, bne_iff_ne, beq_iff_eq, ne_eq, not_true_eq_false, not_false_eq_true, Bool.not_eq_true', decide_eq_false_iff_not, reduceCtorEq, rows_length, pcs_length, er_ok, er_ok', ep_ok, ep_ok', dr_er, dp_ep, isRows_rows, isPcs_pcs, toRows_rows, toPcs_pcs, rows_take, rows_drop, pcs_take, pcs_drop, rows_append, pcs_append, ints_length, isInts_ints, toInts_ints, ei_i, ei_ok, mk_headD, ints_take, ints_drop, ints_append, ints_snoc, ints_snoc', List.take_length, Nat.zero_add, Nat.le_refl, er_a, er_b, er_k, er_n, er_s, er_v, ep_a, ep_b, ep_hk, ep_hn, ep_hs, ep_wk, ep_wn, ep_ws, under_nil ho, hself, hil, show l.length < 4294967296 by omega, show l.length < 4294967290 by omega, show x.length < 4294967290 by omega, show x.length < 4294967296 by omega]
      simp
end Go.Proofs.YtbilmkcdhodenaaDoor

end
