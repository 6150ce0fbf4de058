/-
  Chapter 13 (posting): trees, written by a program: Of, the reference's Of, Probe, Under, On.
-/
import Derived.Test.YtbilmkcdhodenaaDoorPT3
set_option linter.all false
set_option linter.unusedSimpArgs false
set_option linter.unusedVariables false
section
namespace Go.Proofs.YtbilmkcdhodenaaDoor
open Go Go.Ev
set_option pp.deepTerms true
set_option pp.maxSteps 1000000
set_option pp.funBinderTypes true
set_option pp.coercions.types true
noncomputable abbrev p134 : Par := par E sh (ctOf []) 134 2 0
abbrev s134_0 (nl : Option Bool) (tt : Bool) (xs : List (List C)) (nl2 : Option Bool) (t2 : Bool) (ys : List (List C)) (i12 : Int) (i13 : Int) : Fr × Hp := ([(0, V.c (C.sl 5 nl tt xs)), (1, V.c (C.sl 5 nl2 t2 ys)), (12, V.c (C.int IntKind.i64 i12)), (13, V.c (C.int IntKind.i64 i13))], [])
noncomputable abbrev b134_0 : Code := loopAt (codeOf p134.E p134.g) 0
abbrev x134_0x0 : Ex × Fr × Hp := (Ex.ret, [(4, V.c (C.bool false))], [])
abbrev x134_0x1 (nl : Option Bool) (tt : Bool) (xs : List (List C)) (nl2 : Option Bool) (t2 : Bool) (ys : List (List C)) (i12 : Int) (i13 : Int) : Ex × Fr × Hp := (Ex.exit 0, [(0, V.c (C.sl 5 nl tt xs)), (1, V.c (C.sl 5 nl2 t2 ys)), (12, V.c (C.int IntKind.i64 i12)), (13, V.c (C.int IntKind.i64 i13)), (14, V.c (C.bool false))], [])
theorem t134_0 (nl : Option Bool) (tt : Bool) (xs : List (List C)) (nl2 : Option Bool) (t2 : Bool) (ys : List (List C)) (i12 : Int) (i13 : Int) : p134.lts b134_0 (s134_0 nl tt xs nl2 t2 ys i12 i13) = (Tr.br (decide (i13 < i12)) (Tr.chk (decide (0 ≤ i13)) (Tr.chk true (Tr.chk (decide (i13.toNat < xs.length)) (Tr.chk (shOk [Sk.int IntKind.i64, Sk.int IntKind.i64, Sk.int IntKind.i64, Sk.int IntKind.i64, Sk.str] (xs.getD i13.toNat [])) (Tr.chk (decide (0 ≤ i13)) (Tr.chk true (Tr.chk (decide (i13.toNat < ys.length)) (Tr.chk (shOk [Sk.int IntKind.i64, Sk.int IntKind.i64, Sk.int IntKind.i64, Sk.int IntKind.i64, Sk.str] (ys.getD i13.toNat [])) (Tr.br (!(((xs.getD i13.toNat []).headD C.pnil).i == ((ys.getD i13.toNat []).headD C.pnil).i && (((xs.getD i13.toNat []).tail.headD C.pnil).i == ((ys.getD i13.toNat []).tail.headD C.pnil).i && (((xs.getD i13.toNat []).tail.tail.headD C.pnil).i == ((ys.getD i13.toNat []).tail.tail.headD C.pnil).i && (((xs.getD i13.toNat []).tail.tail.tail.headD C.pnil).i == ((ys.getD i13.toNat []).tail.tail.tail.headD C.pnil).i && (((xs.getD i13.toNat []).tail.tail.tail.tail.headD C.pnil).st == ((ys.getD i13.toNat []).tail.tail.tail.tail.headD C.pnil).st && true)))))) (Tr.leaf (R.x x134_0x0)) (Tr.leaf (R.s (s134_0 nl tt xs nl2 t2 ys i12 (IntKind.i64.wrap (i13 + 1)))))))))))))) (Tr.leaf (R.x (x134_0x1 nl tt xs nl2 t2 ys i12 i13)))) := by kernel_rfl
theorem k134_0x0 : p134.fkx 0 x134_0x0 = (Tr.leaf (R.out [V.c (C.bool false)] [])) := by kernel_rfl
theorem k134_0x1 (nl : Option Bool) (tt : Bool) (xs : List (List C)) (nl2 : Option Bool) (t2 : Bool) (ys : List (List C)) (i12 : Int) (i13 : Int) : p134.fkx 0 (x134_0x1 nl tt xs nl2 t2 ys i12 i13) = (Tr.leaf (R.out [V.c (C.bool true)] [])) := by kernel_rfl
theorem t134 (nl : Option Bool) (tt : Bool) (xs : List (List C)) (nl2 : Option Bool) (t2 : Bool) (ys : List (List C)) : p134.ft ([V.c (C.sl 5 nl tt xs), V.c (C.sl 5 nl2 t2 ys)]) ([]) = (Tr.br ((↑xs.length : Int) != (↑ys.length : Int)) (Tr.leaf (R.out [V.c (C.bool false)] [])) (Tr.ls 0 (s134_0 nl tt xs nl2 t2 ys ((↑xs.length : Int)) (0)))) := by kernel_rfl
def s134 : CSpec := fun a h => match a, h with
  | [.c (.sl 5 nl tt xs), .c (.sl 5 nl2 t2 ys)], [] => some ([isRows xs, isRows ys, decide (xs.length < 4294967296)], [V.b (decide (toRows xs = toRows ys))], [])
  | _, _ => none
noncomputable abbrev p88 : Par := par E sh (ctOf [(133, s133), (134, s134)]) 88 1 0
theorem t88 (p : List UInt8) (nl : Option Bool) (tt : Bool) (xs : List (List C)) (nl2 : Option Bool) (t2 : Bool) (ys : List (List C)) : p88.ft ([V.agg [V.c (C.str p), V.c (C.sl 5 nl tt xs), V.c (C.sl 5 nl2 t2 ys)]]) ([]) = (Tr.chk (isRows xs) (Tr.br (checkR (toRows xs) != 0) (Tr.leaf (R.out [V.c (C.int IntKind.i64 0), V.c (C.bool false)] [])) (Tr.chk (isRows ys) (Tr.br (checkR (toRows ys) != 0) (Tr.leaf (R.out [V.c (C.int IntKind.i64 0), V.c (C.bool false)] [])) (Tr.chk (isRows xs) (Tr.chk (isRows ys) (Tr.chk (decide (xs.length < 4294967296)) (Tr.br (decide (toRows xs = toRows ys)) (Tr.leaf (R.out [V.c (C.int IntKind.i64 0), V.c (C.bool false)] [])) (Tr.br ((↑xs.length : Int) == 0) (Tr.leaf (R.out [V.c (C.int IntKind.i64 1), V.c (C.bool true)] [])) (Tr.br ((↑ys.length : Int) == 0) (Tr.leaf (R.out [V.c (C.int IntKind.i64 3), V.c (C.bool true)] [])) (Tr.leaf (R.out [V.c (C.int IntKind.i64 2), V.c (C.bool true)] [])))))))))))) := by kernel_rfl
noncomputable abbrev p91 : Par := par E sh (ctOf []) 91 1 0
theorem t91 (p : List UInt8) (nl : Option Bool) (tt : Bool) (xs : List (List C)) (nl2 : Option Bool) (t2 : Bool) (ys : List (List C)) : p91.ft ([V.agg [V.c (C.str p), V.c (C.sl 5 nl tt xs), V.c (C.sl 5 nl2 t2 ys)]]) ([]) = (Tr.br ((↑xs.length : Int) == 0) (Tr.leaf (R.out [V.c (C.int IntKind.i64 1)] [])) (Tr.br ((↑ys.length : Int) == 0) (Tr.leaf (R.out [V.c (C.int IntKind.i64 3)] [])) (Tr.leaf (R.out [V.c (C.int IntKind.i64 2)] [])))) := by kernel_rfl
def s88 : CSpec := fun a h => match a, h with
  | [.agg [.c (.str p), .c (.sl 5 nl tt xs), .c (.sl 5 nl2 t2 ys)]], [] => some ([isRows xs, isRows ys], [V.i (if okC ⟨p, nl, tt, toRows xs, nl2, t2, toRows ys⟩ = true then kindP ⟨p, nl, tt, toRows xs, nl2, t2, toRows ys⟩ else 0), V.b (okC ⟨p, nl, tt, toRows xs, nl2, t2, toRows ys⟩)], [])
  | _, _ => none
def s91 : CSpec := fun a h => match a, h with
  | [.agg [.c (.str p), .c (.sl 5 nl tt xs), .c (.sl 5 nl2 t2 ys)]], [] => some ([isRows xs, isRows ys], [V.i (kindP ⟨p, nl, tt, toRows xs, nl2, t2, toRows ys⟩)], [])
  | _, _ => none
def s90 : CSpec := fun a h => match a, h with
  | [.c (.sl 5 nl tt xs)], [] => some ([isRows xs], [V.b (right (toRows xs))], [])
  | _, _ => none
noncomputable abbrev p48 : Par := par E sh (ctOf [(88, s88), (43, s43)]) 48 2 0
abbrev s48_0 (nl : Option Bool) (tt : Bool) (xs : List (List C)) (n : Int) (n6 : Nat) (i12 : Int) (i13 : Int) (ys0 : List (List C)) : Fr × Hp := ([(1, V.c (C.int IntKind.i64 n)), (6, V.buf 0 0 0 n6), (11, V.c (C.sl 3 nl tt xs)), (12, V.c (C.int IntKind.i64 i12)), (13, V.c (C.int IntKind.i64 i13))], [O.mem 3 0 ys0])
noncomputable abbrev b48_0 : Code := loopAt (codeOf p48.E p48.g) 0
abbrev x48_0x0 (ys0 : List (List C)) (sh1 : List UInt8) (nlh1 : Option Bool) (xsh1 : List (List C)) (xsh1_1 : List (List C)) : Ex × Fr × Hp := (Ex.ret, [(4, V.c (C.sl 3 (some true) true [])), (5, V.c (C.int IntKind.i64 2))], [O.mem 3 0 ys0, O.box [V.c (C.str sh1), V.c (C.sl 5 nlh1 false xsh1), V.c (C.sl 5 nlh1 false xsh1_1)]])
abbrev x48_0x1 (nl : Option Bool) (tt : Bool) (xs : List (List C)) (n : Int) (n6 : Nat) (i12 : Int) (i13 : Int) (ys0 : List (List C)) : Ex × Fr × Hp := (Ex.exit 0, [(1, V.c (C.int IntKind.i64 n)), (6, V.buf 0 0 0 n6), (11, V.c (C.sl 3 nl tt xs)), (12, V.c (C.int IntKind.i64 i12)), (13, V.c (C.int IntKind.i64 i13)), (14, V.c (C.bool false))], [O.mem 3 0 ys0])
theorem t48_0 (nl : Option Bool) (tt : Bool) (xs : List (List C)) (n : Int) (n6 : Nat) (i12 : Int) (i13 : Int) (ys0 : List (List C)) : p48.lts b48_0 (s48_0 nl tt xs n n6 i12 i13 ys0) = (Tr.br (decide (i13 < i12)) (Tr.chk (decide (0 ≤ i13)) (Tr.chk true (Tr.chk (decide (i13.toNat < xs.length)) (Tr.chk (shOk [Sk.str, Sk.sl 5, Sk.sl 5] (xs.getD i13.toNat [])) (Tr.chk (isRows ((xs.getD i13.toNat []).tail.headD C.pnil).xs) (Tr.chk (isRows ((xs.getD i13.toNat []).tail.tail.headD C.pnil).xs) (Tr.br (!okC { p := ((xs.getD i13.toNat []).headD C.pnil).st, hn := none, ht := false, had := toRows ((xs.getD i13.toNat []).tail.headD C.pnil).xs, nn := none, nt := false, now := toRows ((xs.getD i13.toNat []).tail.tail.headD C.pnil).xs }) (Tr.leaf (R.x (x48_0x0 ys0 (((xs.getD i13.toNat []).headD C.pnil).st) (none) (((xs.getD i13.toNat []).tail.headD C.pnil).xs) (((xs.getD i13.toNat []).tail.tail.headD C.pnil).xs)))) (Tr.chk true (Tr.chk true (Tr.chk (decide (n6 + 1 < 4294967296)) (Tr.chk true (Tr.leaf (R.s (s48_0 nl tt xs n (n6 + 1) i12 (IntKind.i64.wrap (i13 + 1)) (List.take n6 ys0 ++ [[Sk.str.mk ((xs.getD i13.toNat []).headD C.pnil), C.int IntKind.i64 n, C.int IntKind.i64 (if okC { p := ((xs.getD i13.toNat []).headD C.pnil).st, hn := none, ht := false, had := toRows ((xs.getD i13.toNat []).tail.headD C.pnil).xs, nn := none, nt := false, now := toRows ((xs.getD i13.toNat []).tail.tail.headD C.pnil).xs } = true then kindP { p := ((xs.getD i13.toNat []).headD C.pnil).st, hn := none, ht := false, had := toRows ((xs.getD i13.toNat []).tail.headD C.pnil).xs, nn := none, nt := false, now := toRows ((xs.getD i13.toNat []).tail.tail.headD C.pnil).xs } else 0)]]))))))))))))))) (Tr.leaf (R.x (x48_0x1 nl tt xs n n6 i12 i13 ys0)))) := by kernel_rfl
theorem k48_0x0 (ys0 : List (List C)) (sh1 : List UInt8) (nlh1 : Option Bool) (xsh1 : List (List C)) (xsh1_1 : List (List C)) : p48.fkx 0 (x48_0x0 ys0 sh1 nlh1 xsh1 xsh1_1) = (Tr.leaf (R.out [V.c (C.sl 3 none false []), V.c (C.int IntKind.i64 2)] [])) := by kernel_rfl
theorem k48_0x1 (nl : Option Bool) (tt : Bool) (xs : List (List C)) (n : Int) (n6 : Nat) (i12 : Int) (i13 : Int) (ys0 : List (List C)) : p48.fkx 0 (x48_0x1 nl tt xs n n6 i12 i13 ys0) = (Tr.br (decide (n < 1)) (Tr.leaf (R.out [V.c (C.sl 3 none false []), V.c (C.int IntKind.i64 2)] [])) (Tr.br (decide (500 < n)) (Tr.leaf (R.out [V.c (C.sl 3 none false []), V.c (C.int IntKind.i64 2)] [])) (Tr.chk (isPsts (List.take n6 ys0)) (Tr.chk (decide ((List.take n6 ys0).length < 4294967296)) (Tr.br (checkP (toPsts (List.take n6 ys0)) != 0) (Tr.leaf (R.out [V.c (C.sl 3 none false []), V.c (C.int IntKind.i64 2)] [])) (Tr.leaf (R.out [V.c (C.sl 3 none false (List.take n6 ys0)), V.c (C.int IntKind.i64 0)] []))))))) := by kernel_rfl
theorem t48 (nl : Option Bool) (tt : Bool) (xs : List (List C)) (n : Int) : p48.ft ([V.c (C.sl 3 nl tt xs), V.i n]) ([]) = (Tr.ls 0 (s48_0 nl tt xs n (0) ((↑xs.length : Int)) (0) ([]))) := by kernel_rfl
noncomputable abbrev p49 : Par := par E sh (ctOf [(89, s84), (90, s90), (72, s134), (91, s91)]) 49 2 0
abbrev s49_0 (nl : Option Bool) (tt : Bool) (xs : List (List C)) (n : Int) (n6 : Nat) (i7 : Int) (ys0 : List (List C)) : Fr × Hp := ([(0, V.c (C.sl 3 nl tt xs)), (1, V.c (C.int IntKind.i64 n)), (6, V.buf 0 0 0 n6), (7, V.c (C.int IntKind.i64 i7))], [O.mem 3 0 ys0])
noncomputable abbrev b49_0 : Code := loopAt (codeOf p49.E p49.g) 0
abbrev x49_0x0 (ys0 : List (List C)) (sh1 : List UInt8) (nlh1 : Option Bool) (xsh1 : List (List C)) (xsh1_1 : List (List C)) : Ex × Fr × Hp := (Ex.ret, [(4, V.c (C.sl 3 (some true) true [])), (5, V.c (C.int IntKind.i64 2))], [O.mem 3 0 ys0, O.box [V.c (C.str sh1), V.c (C.sl 5 nlh1 false xsh1), V.c (C.sl 5 nlh1 false xsh1_1)]])
abbrev x49_0x1 (nl : Option Bool) (tt : Bool) (xs : List (List C)) (n : Int) (n6 : Nat) (i7 : Int) (ys0 : List (List C)) : Ex × Fr × Hp := (Ex.exit 0, [(0, V.c (C.sl 3 nl tt xs)), (1, V.c (C.int IntKind.i64 n)), (6, V.buf 0 0 0 n6), (7, V.c (C.int IntKind.i64 i7)), (18, V.c (C.bool false))], [O.mem 3 0 ys0])
theorem t49_0 (nl : Option Bool) (tt : Bool) (xs : List (List C)) (n : Int) (n6 : Nat) (i7 : Int) (ys0 : List (List C)) : p49.lts b49_0 (s49_0 nl tt xs n n6 i7 ys0) = (Tr.br (decide (i7 < (↑xs.length : Int))) (Tr.chk (decide (0 ≤ i7)) (Tr.chk true (Tr.chk (decide (i7.toNat < xs.length)) (Tr.chk (shOk [Sk.str, Sk.sl 5, Sk.sl 5] (xs.getD i7.toNat [])) (Tr.br (!isPath ((xs.getD i7.toNat []).headD C.pnil).st) (Tr.leaf (R.x (x49_0x0 ys0 (((xs.getD i7.toNat []).headD C.pnil).st) (none) (((xs.getD i7.toNat []).tail.headD C.pnil).xs) (((xs.getD i7.toNat []).tail.tail.headD C.pnil).xs)))) (Tr.br (decide (0 < i7)) (Tr.chk (decide (0 ≤ IntKind.i64.wrap (i7 - 1))) (Tr.chk true (Tr.chk (decide ((IntKind.i64.wrap (i7 - 1)).toNat < xs.length)) (Tr.chk (shOk [Sk.str, Sk.sl 5, Sk.sl 5] (xs.getD (IntKind.i64.wrap (i7 - 1)).toNat [])) (Tr.br (!Op.bytesLess ((xs.getD (IntKind.i64.wrap (i7 - 1)).toNat []).headD C.pnil).st ((xs.getD i7.toNat []).headD C.pnil).st) (Tr.leaf (R.x (x49_0x0 ys0 (((xs.getD i7.toNat []).headD C.pnil).st) (none) (((xs.getD i7.toNat []).tail.headD C.pnil).xs) (((xs.getD i7.toNat []).tail.tail.headD C.pnil).xs)))) (Tr.chk (isRows ((xs.getD i7.toNat []).tail.headD C.pnil).xs) (Tr.br (!right (toRows ((xs.getD i7.toNat []).tail.headD C.pnil).xs)) (Tr.leaf (R.x (x49_0x0 ys0 (((xs.getD i7.toNat []).headD C.pnil).st) (none) (((xs.getD i7.toNat []).tail.headD C.pnil).xs) (((xs.getD i7.toNat []).tail.tail.headD C.pnil).xs)))) (Tr.chk (isRows ((xs.getD i7.toNat []).tail.tail.headD C.pnil).xs) (Tr.br (!right (toRows ((xs.getD i7.toNat []).tail.tail.headD C.pnil).xs)) (Tr.leaf (R.x (x49_0x0 ys0 (((xs.getD i7.toNat []).headD C.pnil).st) (none) (((xs.getD i7.toNat []).tail.headD C.pnil).xs) (((xs.getD i7.toNat []).tail.tail.headD C.pnil).xs)))) (Tr.chk (isRows ((xs.getD i7.toNat []).tail.headD C.pnil).xs) (Tr.chk (isRows ((xs.getD i7.toNat []).tail.tail.headD C.pnil).xs) (Tr.chk (decide (((xs.getD i7.toNat []).tail.headD C.pnil).xs.length < 4294967296)) (Tr.br (decide (toRows ((xs.getD i7.toNat []).tail.headD C.pnil).xs = toRows ((xs.getD i7.toNat []).tail.tail.headD C.pnil).xs)) (Tr.leaf (R.x (x49_0x0 ys0 (((xs.getD i7.toNat []).headD C.pnil).st) (none) (((xs.getD i7.toNat []).tail.headD C.pnil).xs) (((xs.getD i7.toNat []).tail.tail.headD C.pnil).xs)))) (Tr.chk (isRows ((xs.getD i7.toNat []).tail.headD C.pnil).xs) (Tr.chk (isRows ((xs.getD i7.toNat []).tail.tail.headD C.pnil).xs) (Tr.chk true (Tr.chk true (Tr.chk (decide (n6 + 1 < 4294967296)) (Tr.chk true (Tr.leaf (R.s (s49_0 nl tt xs n (n6 + 1) (IntKind.i64.wrap (i7 + 1)) (List.take n6 ys0 ++ [[Sk.str.mk ((xs.getD i7.toNat []).headD C.pnil), C.int IntKind.i64 n, C.int IntKind.i64 (kindP { p := ((xs.getD i7.toNat []).headD C.pnil).st, hn := none, ht := false, had := toRows ((xs.getD i7.toNat []).tail.headD C.pnil).xs, nn := none, nt := false, now := toRows ((xs.getD i7.toNat []).tail.tail.headD C.pnil).xs })]]))))))))))))))))))))))) (Tr.chk (isRows ((xs.getD i7.toNat []).tail.headD C.pnil).xs) (Tr.br (!right (toRows ((xs.getD i7.toNat []).tail.headD C.pnil).xs)) (Tr.leaf (R.x (x49_0x0 ys0 (((xs.getD i7.toNat []).headD C.pnil).st) (none) (((xs.getD i7.toNat []).tail.headD C.pnil).xs) (((xs.getD i7.toNat []).tail.tail.headD C.pnil).xs)))) (Tr.chk (isRows ((xs.getD i7.toNat []).tail.tail.headD C.pnil).xs) (Tr.br (!right (toRows ((xs.getD i7.toNat []).tail.tail.headD C.pnil).xs)) (Tr.leaf (R.x (x49_0x0 ys0 (((xs.getD i7.toNat []).headD C.pnil).st) (none) (((xs.getD i7.toNat []).tail.headD C.pnil).xs) (((xs.getD i7.toNat []).tail.tail.headD C.pnil).xs)))) (Tr.chk (isRows ((xs.getD i7.toNat []).tail.headD C.pnil).xs) (Tr.chk (isRows ((xs.getD i7.toNat []).tail.tail.headD C.pnil).xs) (Tr.chk (decide (((xs.getD i7.toNat []).tail.headD C.pnil).xs.length < 4294967296)) (Tr.br (decide (toRows ((xs.getD i7.toNat []).tail.headD C.pnil).xs = toRows ((xs.getD i7.toNat []).tail.tail.headD C.pnil).xs)) (Tr.leaf (R.x (x49_0x0 ys0 (((xs.getD i7.toNat []).headD C.pnil).st) (none) (((xs.getD i7.toNat []).tail.headD C.pnil).xs) (((xs.getD i7.toNat []).tail.tail.headD C.pnil).xs)))) (Tr.chk (isRows ((xs.getD i7.toNat []).tail.headD C.pnil).xs) (Tr.chk (isRows ((xs.getD i7.toNat []).tail.tail.headD C.pnil).xs) (Tr.chk true (Tr.chk true (Tr.chk (decide (n6 + 1 < 4294967296)) (Tr.chk true (Tr.leaf (R.s (s49_0 nl tt xs n (n6 + 1) (IntKind.i64.wrap (i7 + 1)) (List.take n6 ys0 ++ [[Sk.str.mk ((xs.getD i7.toNat []).headD C.pnil), C.int IntKind.i64 n, C.int IntKind.i64 (kindP { p := ((xs.getD i7.toNat []).headD C.pnil).st, hn := none, ht := false, had := toRows ((xs.getD i7.toNat []).tail.headD C.pnil).xs, nn := none, nt := false, now := toRows ((xs.getD i7.toNat []).tail.tail.headD C.pnil).xs })]])))))))))))))))))))))))) (Tr.leaf (R.x (x49_0x1 nl tt xs n n6 i7 ys0)))) := by kernel_rfl
theorem k49_0x0 (ys0 : List (List C)) (sh1 : List UInt8) (nlh1 : Option Bool) (xsh1 : List (List C)) (xsh1_1 : List (List C)) : p49.fkx 0 (x49_0x0 ys0 sh1 nlh1 xsh1 xsh1_1) = (Tr.leaf (R.out [V.c (C.sl 3 none false []), V.c (C.int IntKind.i64 2)] [])) := by kernel_rfl
theorem k49_0x1 (nl : Option Bool) (tt : Bool) (xs : List (List C)) (n : Int) (n6 : Nat) (i7 : Int) (ys0 : List (List C)) : p49.fkx 0 (x49_0x1 nl tt xs n n6 i7 ys0) = (Tr.leaf (R.out [V.c (C.sl 3 none false (List.take n6 ys0)), V.c (C.int IntKind.i64 0)] [])) := by kernel_rfl
theorem t49 (nl : Option Bool) (tt : Bool) (xs : List (List C)) (n : Int) : p49.ft ([V.c (C.sl 3 nl tt xs), V.i n]) ([]) = (Tr.br (decide (n < 1)) (Tr.leaf (R.out [V.c (C.sl 3 none false []), V.c (C.int IntKind.i64 2)] [])) (Tr.br (decide (500 < n)) (Tr.leaf (R.out [V.c (C.sl 3 none false []), V.c (C.int IntKind.i64 2)] [])) (Tr.ls 0 (s49_0 nl tt xs n (0) (0) ([]))))) := by kernel_rfl
noncomputable abbrev p50 : Par := par E sh (ctOf [(82, s82)]) 50 2 0
abbrev s50_0 (nl : Option Bool) (tt : Bool) (xs : List (List C)) (q : List UInt8) (n5 : Nat) (i6 : Int) (ys0 : List (List C)) : Fr × Hp := ([(0, V.c (C.sl 3 nl tt xs)), (1, V.c (C.str q)), (5, V.buf 0 0 0 n5), (6, V.c (C.int IntKind.i64 i6))], [O.mem 3 0 ys0])
noncomputable abbrev b50_0 : Code := loopAt (codeOf p50.E p50.g) 0
abbrev x50_0x0 (nl : Option Bool) (tt : Bool) (xs : List (List C)) (q : List UInt8) (n5 : Nat) (i6 : Int) (ys0 : List (List C)) : Ex × Fr × Hp := (Ex.exit 0, [(0, V.c (C.sl 3 nl tt xs)), (1, V.c (C.str q)), (5, V.buf 0 0 0 n5), (6, V.c (C.int IntKind.i64 i6)), (14, V.c (C.bool false))], [O.mem 3 0 ys0])
theorem t50_0 (nl : Option Bool) (tt : Bool) (xs : List (List C)) (q : List UInt8) (n5 : Nat) (i6 : Int) (ys0 : List (List C)) : p50.lts b50_0 (s50_0 nl tt xs q n5 i6 ys0) = (Tr.br (decide (i6 < (↑xs.length : Int))) (Tr.chk (isPsts xs) (Tr.chk (decide (xs.length < 4294967296)) (Tr.br (okP (toPsts xs)) (Tr.chk (decide (0 ≤ i6)) (Tr.chk true (Tr.chk (decide (i6.toNat < xs.length)) (Tr.chk (shOk [Sk.str, Sk.int IntKind.i64, Sk.int IntKind.i64] (xs.getD i6.toNat [])) (Tr.br (((xs.getD i6.toNat []).headD C.pnil).st == q) (Tr.chk (decide (0 ≤ i6)) (Tr.chk true (Tr.chk (decide (i6.toNat < xs.length)) (Tr.chk (shOk [Sk.str, Sk.int IntKind.i64, Sk.int IntKind.i64] (xs.getD i6.toNat [])) (Tr.chk true (Tr.chk true (Tr.chk (decide (n5 + 1 < 4294967296)) (Tr.chk true (Tr.leaf (R.s (s50_0 nl tt xs q (n5 + 1) (IntKind.i64.wrap (i6 + 1)) (List.take n5 ys0 ++ [[Sk.str.mk ((xs.getD i6.toNat []).headD C.pnil), (Sk.int IntKind.i64).mk ((xs.getD i6.toNat []).tail.headD C.pnil), (Sk.int IntKind.i64).mk ((xs.getD i6.toNat []).tail.tail.headD C.pnil)]])))))))))))) (Tr.leaf (R.s (s50_0 nl tt xs q n5 (IntKind.i64.wrap (i6 + 1)) ys0)))))))) (Tr.leaf (R.x (x50_0x0 nl tt xs q n5 i6 ys0)))))) (Tr.leaf (R.x (x50_0x0 nl tt xs q n5 i6 ys0)))) := by kernel_rfl
theorem k50_0x0 (nl : Option Bool) (tt : Bool) (xs : List (List C)) (q : List UInt8) (n5 : Nat) (i6 : Int) (ys0 : List (List C)) : p50.fkx 0 (x50_0x0 nl tt xs q n5 i6 ys0) = (Tr.leaf (R.out [V.c (C.sl 3 none false (List.take n5 ys0))] [])) := by kernel_rfl
theorem t50 (nl : Option Bool) (tt : Bool) (xs : List (List C)) (q : List UInt8) : p50.ft ([V.c (C.sl 3 nl tt xs), V.c (C.str q)]) ([]) = (Tr.ls 0 (s50_0 nl tt xs q (0) (0) ([]))) := by kernel_rfl
noncomputable abbrev p52 : Par := par E sh (ctOf [(82, s82), (95, s137)]) 52 2 0
abbrev s52_0 (nl : Option Bool) (tt : Bool) (xs : List (List C)) (q : List UInt8) (n5 : Nat) (i6 : Int) (ys0 : List (List C)) : Fr × Hp := ([(0, V.c (C.sl 3 nl tt xs)), (1, V.c (C.str q)), (5, V.buf 0 0 0 n5), (6, V.c (C.int IntKind.i64 i6))], [O.mem 3 0 ys0])
noncomputable abbrev b52_0 : Code := loopAt (codeOf p52.E p52.g) 0
abbrev x52_0x0 (nl : Option Bool) (tt : Bool) (xs : List (List C)) (q : List UInt8) (n5 : Nat) (i6 : Int) (ys0 : List (List C)) : Ex × Fr × Hp := (Ex.exit 0, [(0, V.c (C.sl 3 nl tt xs)), (1, V.c (C.str q)), (5, V.buf 0 0 0 n5), (6, V.c (C.int IntKind.i64 i6)), (14, V.c (C.bool false))], [O.mem 3 0 ys0])
theorem t52_0 (nl : Option Bool) (tt : Bool) (xs : List (List C)) (q : List UInt8) (n5 : Nat) (i6 : Int) (ys0 : List (List C)) : p52.lts b52_0 (s52_0 nl tt xs q n5 i6 ys0) = (Tr.br (decide (i6 < (↑xs.length : Int))) (Tr.chk (isPsts xs) (Tr.chk (decide (xs.length < 4294967296)) (Tr.br (okP (toPsts xs)) (Tr.chk (decide (0 ≤ i6)) (Tr.chk true (Tr.chk (decide (i6.toNat < xs.length)) (Tr.chk (shOk [Sk.str, Sk.int IntKind.i64, Sk.int IntKind.i64] (xs.getD i6.toNat [])) (Tr.br (begins ((xs.getD i6.toNat []).headD C.pnil).st q) (Tr.chk (decide (0 ≤ i6)) (Tr.chk true (Tr.chk (decide (i6.toNat < xs.length)) (Tr.chk (shOk [Sk.str, Sk.int IntKind.i64, Sk.int IntKind.i64] (xs.getD i6.toNat [])) (Tr.chk true (Tr.chk true (Tr.chk (decide (n5 + 1 < 4294967296)) (Tr.chk true (Tr.leaf (R.s (s52_0 nl tt xs q (n5 + 1) (IntKind.i64.wrap (i6 + 1)) (List.take n5 ys0 ++ [[Sk.str.mk ((xs.getD i6.toNat []).headD C.pnil), (Sk.int IntKind.i64).mk ((xs.getD i6.toNat []).tail.headD C.pnil), (Sk.int IntKind.i64).mk ((xs.getD i6.toNat []).tail.tail.headD C.pnil)]])))))))))))) (Tr.leaf (R.s (s52_0 nl tt xs q n5 (IntKind.i64.wrap (i6 + 1)) ys0)))))))) (Tr.leaf (R.x (x52_0x0 nl tt xs q n5 i6 ys0)))))) (Tr.leaf (R.x (x52_0x0 nl tt xs q n5 i6 ys0)))) := by kernel_rfl
theorem k52_0x0 (nl : Option Bool) (tt : Bool) (xs : List (List C)) (q : List UInt8) (n5 : Nat) (i6 : Int) (ys0 : List (List C)) : p52.fkx 0 (x52_0x0 nl tt xs q n5 i6 ys0) = (Tr.leaf (R.out [V.c (C.sl 3 none false (List.take n5 ys0))] [])) := by kernel_rfl
theorem t52 (nl : Option Bool) (tt : Bool) (xs : List (List C)) (q : List UInt8) : p52.ft ([V.c (C.sl 3 nl tt xs), V.c (C.str q)]) ([]) = (Tr.ls 0 (s52_0 nl tt xs q (0) (0) ([]))) := by kernel_rfl
noncomputable abbrev p97 : Par := par E sh (ctOf []) 97 2 1
theorem t97 (p : List UInt8) (c : Int) (k : Int) (n : Int) : p97.ft ([V.agg [V.c (C.str p), V.i c, V.i k], V.ptr 0 0 0 0]) ([O.box [V.i n]]) = (Tr.leaf (R.out [V.c (C.bool (c == n))] [O.box [V.c (C.int IntKind.i64 n)]])) := by kernel_rfl
def s97 : CSpec := fun a h => match a, h with
  | [.agg [.c (.str p), .c (.int .i64 c), .c (.int .i64 k)], .ptr 0 0 0 0], [.box [.c (.int .i64 n)]] => some ([], [V.b (c == n)], [.box [.c (.int .i64 n)]])
  | _, _ => none
noncomputable abbrev p96 : Par := par E sh (ctOf [(97, s97)]) 96 2 1
abbrev s96_0 (nl : Option Bool) (tt : Bool) (xs : List (List C)) (n : Int) (i7 : Int) (i8 : Int) : Fr × Hp := ([(0, V.c (C.sl 3 nl tt xs)), (1, V.fn 97 [V.ptr 0 0 0 0]), (7, V.c (C.int IntKind.i64 i7)), (8, V.c (C.int IntKind.i64 i8))], [O.box [V.c (C.int IntKind.i64 n)]])
noncomputable abbrev b96_0 : Code := loopAt (codeOf p96.E p96.g) 0
abbrev x96_0x0 (n : Int) (i8 : Int) : Ex × Fr × Hp := (Ex.ret, [(4, V.c (C.int IntKind.i64 i8))], [O.box [V.c (C.int IntKind.i64 n)]])
abbrev x96_0x1 (nl : Option Bool) (tt : Bool) (xs : List (List C)) (n : Int) (i7 : Int) (i8 : Int) : Ex × Fr × Hp := (Ex.exit 0, [(0, V.c (C.sl 3 nl tt xs)), (1, V.fn 97 [V.ptr 0 0 0 0]), (7, V.c (C.int IntKind.i64 i7)), (8, V.c (C.int IntKind.i64 i8)), (9, V.c (C.bool false))], [O.box [V.c (C.int IntKind.i64 n)]])
theorem t96_0 (nl : Option Bool) (tt : Bool) (xs : List (List C)) (n : Int) (i7 : Int) (i8 : Int) : p96.lts b96_0 (s96_0 nl tt xs n i7 i8) = (Tr.br (decide (i8 < i7)) (Tr.chk (decide (0 ≤ i8)) (Tr.chk true (Tr.chk (decide (i8.toNat < xs.length)) (Tr.chk (shOk [Sk.str, Sk.int IntKind.i64, Sk.int IntKind.i64] (xs.getD i8.toNat [])) (Tr.br (((xs.getD i8.toNat []).tail.headD C.pnil).i == n) (Tr.leaf (R.x (x96_0x0 n i8))) (Tr.leaf (R.s (s96_0 nl tt xs n i7 (IntKind.i64.wrap (i8 + 1)))))))))) (Tr.leaf (R.x (x96_0x1 nl tt xs n i7 i8)))) := by kernel_rfl
theorem k96_0x0 (n : Int) (i8 : Int) : p96.fkx 0 (x96_0x0 n i8) = (Tr.leaf (R.out [V.c (C.int IntKind.i64 i8)] [O.box [V.c (C.int IntKind.i64 n)]])) := by kernel_rfl
theorem k96_0x1 (nl : Option Bool) (tt : Bool) (xs : List (List C)) (n : Int) (i7 : Int) (i8 : Int) : p96.fkx 0 (x96_0x1 nl tt xs n i7 i8) = (Tr.leaf (R.out [V.c (C.int IntKind.i64 (-1))] [O.box [V.c (C.int IntKind.i64 n)]])) := by kernel_rfl
theorem t96 (nl : Option Bool) (tt : Bool) (xs : List (List C)) (n : Int) : p96.ft ([V.c (C.sl 3 nl tt xs), V.fn 97 [V.ptr 0 0 0 0]]) ([O.box [V.i n]]) = (Tr.ls 0 (s96_0 nl tt xs n ((↑xs.length : Int)) (0))) := by kernel_rfl
/-- Where a commit's posting stands; below 0: there is none. -/
def findC (n : Int) : List Pst → Nat → Int
  | [], _ => -1
  | x :: r, k => if x.c = n then k else findC n r (k + 1)
def s96 : CSpec := fun a h => match a, h with
  | [.c (.sl 3 nl tt xs), .fn 97 [.ptr 0 0 0 0]], [.box [.c (.int .i64 n)]] => some ([isPsts xs, decide (xs.length < 4294967296)], [V.i (findC n (toPsts xs) 0)], [.box [.c (.int .i64 n)]])
  | _, _ => none
def s47 : CSpec := fun a h => match a, h with
  | [.c (.sl 3 nl tt xs), .c (.str q)], [] => some ([isPsts xs, decide (xs.length < 4294967296), decide (nl ≠ some true ∨ xs = [])], [.c (.sl 3 none false (psts (probeP (toPsts xs) q)))], [])
  | _, _ => none
noncomputable abbrev p53 : Par := par E sh (ctOf [(47, s47), (96, s96)]) 53 3 0
abbrev s53_0 (nl2 : Option Bool) (t2 : Bool) (ys : List (List C)) (nl7 : Option Bool) (t7 : Bool) (xs7 : List (List C)) (n8 : Nat) (i16 : Int) (i17 : Int) (ys0 : List (List C)) : Fr × Hp := ([(7, V.c (C.sl 3 nl7 t7 xs7)), (8, V.buf 0 0 0 n8), (15, V.c (C.sl 1 nl2 t2 ys)), (16, V.c (C.int IntKind.i64 i16)), (17, V.c (C.int IntKind.i64 i17))], [O.mem 3 0 ys0])
noncomputable abbrev b53_0 : Code := loopAt (codeOf p53.E p53.g) 0
abbrev x53_0x0 (nl2 : Option Bool) (t2 : Bool) (ys : List (List C)) (nl7 : Option Bool) (t7 : Bool) (xs7 : List (List C)) (n8 : Nat) (i16 : Int) (i17 : Int) (ys0 : List (List C)) : Ex × Fr × Hp := (Ex.exit 0, [(7, V.c (C.sl 3 nl7 t7 xs7)), (8, V.buf 0 0 0 n8), (15, V.c (C.sl 1 nl2 t2 ys)), (16, V.c (C.int IntKind.i64 i16)), (17, V.c (C.int IntKind.i64 i17)), (18, V.c (C.bool false))], [O.mem 3 0 ys0])
theorem t53_0 (nl2 : Option Bool) (t2 : Bool) (ys : List (List C)) (nl7 : Option Bool) (t7 : Bool) (xs7 : List (List C)) (n8 : Nat) (i16 : Int) (i17 : Int) (ys0 : List (List C)) : p53.lts b53_0 (s53_0 nl2 t2 ys nl7 t7 xs7 n8 i16 i17 ys0) = (Tr.br (decide (i17 < i16)) (Tr.chk (decide (0 ≤ i17)) (Tr.chk true (Tr.chk (decide (i17.toNat < ys.length)) (Tr.chk (shOk [Sk.int IntKind.i64] (ys.getD i17.toNat [])) (Tr.chk (isPsts xs7) (Tr.chk (decide (xs7.length < 4294967296)) (Tr.br (decide (0 ≤ findC ((ys.getD i17.toNat []).headD C.pnil).i (toPsts xs7) 0)) (Tr.chk (decide (0 ≤ findC ((ys.getD i17.toNat []).headD C.pnil).i (toPsts xs7) 0)) (Tr.chk true (Tr.chk (decide ((findC ((ys.getD i17.toNat []).headD C.pnil).i (toPsts xs7) 0).toNat < xs7.length)) (Tr.chk (shOk [Sk.str, Sk.int IntKind.i64, Sk.int IntKind.i64] (xs7.getD (findC ((ys.getD i17.toNat []).headD C.pnil).i (toPsts xs7) 0).toNat [])) (Tr.chk true (Tr.chk true (Tr.chk (decide (n8 + 1 < 4294967296)) (Tr.chk true (Tr.leaf (R.s (s53_0 nl2 t2 ys nl7 t7 xs7 (n8 + 1) i16 (IntKind.i64.wrap (i17 + 1)) (List.take n8 ys0 ++ [[Sk.str.mk ((xs7.getD (findC ((ys.getD i17.toNat []).headD C.pnil).i (toPsts xs7) 0).toNat []).headD C.pnil), (Sk.int IntKind.i64).mk ((xs7.getD (findC ((ys.getD i17.toNat []).headD C.pnil).i (toPsts xs7) 0).toNat []).tail.headD C.pnil), (Sk.int IntKind.i64).mk ((xs7.getD (findC ((ys.getD i17.toNat []).headD C.pnil).i (toPsts xs7) 0).toNat []).tail.tail.headD C.pnil)]])))))))))))) (Tr.leaf (R.s (s53_0 nl2 t2 ys nl7 t7 xs7 n8 i16 (IntKind.i64.wrap (i17 + 1)) ys0)))))))))) (Tr.leaf (R.x (x53_0x0 nl2 t2 ys nl7 t7 xs7 n8 i16 i17 ys0)))) := by kernel_rfl
theorem k53_0x0 (nl2 : Option Bool) (t2 : Bool) (ys : List (List C)) (nl7 : Option Bool) (t7 : Bool) (xs7 : List (List C)) (n8 : Nat) (i16 : Int) (i17 : Int) (ys0 : List (List C)) : p53.fkx 0 (x53_0x0 nl2 t2 ys nl7 t7 xs7 n8 i16 i17 ys0) = (Tr.leaf (R.out [V.c (C.sl 3 none false (List.take n8 ys0))] [])) := by kernel_rfl
theorem t53 (nl : Option Bool) (tt : Bool) (xs : List (List C)) (q : List UInt8) (nl2 : Option Bool) (t2 : Bool) (ys : List (List C)) : p53.ft ([V.c (C.sl 3 nl tt xs), V.c (C.str q), V.c (C.sl 1 nl2 t2 ys)]) ([]) = (Tr.chk (isPsts xs) (Tr.chk (decide (xs.length < 4294967296)) (Tr.chk (decide (nl ≠ some true ∨ xs = [])) (Tr.ls 0 (s53_0 nl2 t2 ys (none) false (psts (probeP (toPsts xs) q)) (0) ((↑ys.length : Int)) (0) ([])))))) := by kernel_rfl
def s50 : CSpec := fun a h => match a, h with
  | [.c (.sl 3 nl tt xs), .c (.str q)], [] => some ([isPsts xs, decide (xs.length < 1000000)], [.c (.sl 3 none false (psts (probeP (toPsts xs) q)))], [])
  | _, _ => none
noncomputable abbrev p54 : Par := par E sh (ctOf [(50, s50)]) 54 3 0
abbrev s54_0 (nl2 : Option Bool) (t2 : Bool) (ys : List (List C)) (nl7 : Option Bool) (t7 : Bool) (xs7 : List (List C)) (n8 : Nat) (i9 : Int) (ys0 : List (List C)) : Fr × Hp := ([(2, V.c (C.sl 1 nl2 t2 ys)), (7, V.c (C.sl 3 nl7 t7 xs7)), (8, V.buf 0 0 0 n8), (9, V.c (C.int IntKind.i64 i9))], [O.mem 3 0 ys0])
noncomputable abbrev b54_0 : Code := loopAt (codeOf p54.E p54.g) 0
abbrev s54_0_0 (nl2 : Option Bool) (t2 : Bool) (ys : List (List C)) (nl7 : Option Bool) (t7 : Bool) (xs7 : List (List C)) (n8 : Nat) (i9 : Int) (ys0 : List (List C)) (i10 : Int) : Fr × Hp := ([(2, V.c (C.sl 1 nl2 t2 ys)), (7, V.c (C.sl 3 nl7 t7 xs7)), (8, V.buf 0 0 0 n8), (9, V.c (C.int IntKind.i64 i9)), (10, V.c (C.int IntKind.i64 i10))], [O.mem 3 0 ys0])
noncomputable abbrev b54_0_0 : Code := loopAt b54_0 0
abbrev x54_0_0x0 (nl2 : Option Bool) (t2 : Bool) (ys : List (List C)) (nl7 : Option Bool) (t7 : Bool) (xs7 : List (List C)) (n8 : Nat) (i9 : Int) (ys0 : List (List C)) (i10 : Int) : Ex × Fr × Hp := (Ex.exit 2, [(2, V.c (C.sl 1 nl2 t2 ys)), (7, V.c (C.sl 3 nl7 t7 xs7)), (8, V.buf 0 0 0 n8), (9, V.c (C.int IntKind.i64 i9)), (10, V.c (C.int IntKind.i64 i10)), (23, V.c (C.bool false))], [O.mem 3 0 ys0])
abbrev x54_0x0 (nl2 : Option Bool) (t2 : Bool) (ys : List (List C)) (nl7 : Option Bool) (t7 : Bool) (xs7 : List (List C)) (n8 : Nat) (i9 : Int) (ys0 : List (List C)) : Ex × Fr × Hp := (Ex.exit 0, [(2, V.c (C.sl 1 nl2 t2 ys)), (7, V.c (C.sl 3 nl7 t7 xs7)), (8, V.buf 0 0 0 n8), (9, V.c (C.int IntKind.i64 i9)), (17, V.c (C.bool false))], [O.mem 3 0 ys0])
theorem t54_0_0 (nl2 : Option Bool) (t2 : Bool) (ys : List (List C)) (nl7 : Option Bool) (t7 : Bool) (xs7 : List (List C)) (n8 : Nat) (i9 : Int) (ys0 : List (List C)) (i10 : Int) : p54.lts b54_0_0 (s54_0_0 nl2 t2 ys nl7 t7 xs7 n8 i9 ys0 i10) = (Tr.br (decide (i10 < (↑xs7.length : Int))) (Tr.chk (decide (0 ≤ i10)) (Tr.chk true (Tr.chk (decide (i10.toNat < xs7.length)) (Tr.chk (shOk [Sk.str, Sk.int IntKind.i64, Sk.int IntKind.i64] (xs7.getD i10.toNat [])) (Tr.chk (decide (0 ≤ i9)) (Tr.chk true (Tr.chk (decide (i9.toNat < ys.length)) (Tr.chk (shOk [Sk.int IntKind.i64] (ys.getD i9.toNat [])) (Tr.br (((xs7.getD i10.toNat []).tail.headD C.pnil).i == ((ys.getD i9.toNat []).headD C.pnil).i) (Tr.chk (decide (0 ≤ i10)) (Tr.chk true (Tr.chk (decide (i10.toNat < xs7.length)) (Tr.chk (shOk [Sk.str, Sk.int IntKind.i64, Sk.int IntKind.i64] (xs7.getD i10.toNat [])) (Tr.chk true (Tr.chk true (Tr.chk (decide (n8 + 1 < 4294967296)) (Tr.chk true (Tr.leaf (R.s (s54_0_0 nl2 t2 ys nl7 t7 xs7 (n8 + 1) i9 (List.take n8 ys0 ++ [[Sk.str.mk ((xs7.getD i10.toNat []).headD C.pnil), (Sk.int IntKind.i64).mk ((xs7.getD i10.toNat []).tail.headD C.pnil), (Sk.int IntKind.i64).mk ((xs7.getD i10.toNat []).tail.tail.headD C.pnil)]]) (IntKind.i64.wrap (i10 + 1))))))))))))) (Tr.leaf (R.s (s54_0_0 nl2 t2 ys nl7 t7 xs7 n8 i9 ys0 (IntKind.i64.wrap (i10 + 1)))))))))))))) (Tr.leaf (R.x (x54_0_0x0 nl2 t2 ys nl7 t7 xs7 n8 i9 ys0 i10)))) := by kernel_rfl
theorem k54_0_0x0 (nl2 : Option Bool) (t2 : Bool) (ys : List (List C)) (nl7 : Option Bool) (t7 : Bool) (xs7 : List (List C)) (n8 : Nat) (i9 : Int) (ys0 : List (List C)) (i10 : Int) : p54.lkx b54_0 0 (x54_0_0x0 nl2 t2 ys nl7 t7 xs7 n8 i9 ys0 i10) = (Tr.leaf (R.s (s54_0 nl2 t2 ys nl7 t7 xs7 n8 (IntKind.i64.wrap (i9 + 1)) ys0))) := by kernel_rfl
theorem t54_0 (nl2 : Option Bool) (t2 : Bool) (ys : List (List C)) (nl7 : Option Bool) (t7 : Bool) (xs7 : List (List C)) (n8 : Nat) (i9 : Int) (ys0 : List (List C)) : p54.lts b54_0 (s54_0 nl2 t2 ys nl7 t7 xs7 n8 i9 ys0) = (Tr.br (decide (i9 < (↑ys.length : Int))) (Tr.ls 0 (s54_0_0 nl2 t2 ys nl7 t7 xs7 n8 i9 ys0 (0))) (Tr.leaf (R.x (x54_0x0 nl2 t2 ys nl7 t7 xs7 n8 i9 ys0)))) := by kernel_rfl
theorem k54_0x0 (nl2 : Option Bool) (t2 : Bool) (ys : List (List C)) (nl7 : Option Bool) (t7 : Bool) (xs7 : List (List C)) (n8 : Nat) (i9 : Int) (ys0 : List (List C)) : p54.fkx 0 (x54_0x0 nl2 t2 ys nl7 t7 xs7 n8 i9 ys0) = (Tr.leaf (R.out [V.c (C.sl 3 none false (List.take n8 ys0))] [])) := by kernel_rfl
theorem t54 (nl : Option Bool) (tt : Bool) (xs : List (List C)) (q : List UInt8) (nl2 : Option Bool) (t2 : Bool) (ys : List (List C)) : p54.ft ([V.c (C.sl 3 nl tt xs), V.c (C.str q), V.c (C.sl 1 nl2 t2 ys)]) ([]) = (Tr.chk (isPsts xs) (Tr.chk (decide (xs.length < 1000000)) (Tr.ls 0 (s54_0 nl2 t2 ys (none) false (psts (probeP (toPsts xs) q)) (0) (0) ([]))))) := by kernel_rfl
noncomputable abbrev p38 : Par := par E sh (ctOf []) 38 1 0
abbrev s38_0 (nl : Option Bool) (tt : Bool) (xs : List (List C)) (i3 : Int) : Fr × Hp := ([(0, V.c (C.sl 3 nl tt xs)), (3, V.c (C.int IntKind.i64 i3))], [])
noncomputable abbrev b38_0 : Code := loopAt (codeOf p38.E p38.g) 0
abbrev x38_0x0 : Ex × Fr × Hp := (Ex.ret, [(2, V.c (C.bool false))], [])
abbrev x38_0x1 (nl : Option Bool) (tt : Bool) (xs : List (List C)) (i3 : Int) : Ex × Fr × Hp := (Ex.exit 0, [(0, V.c (C.sl 3 nl tt xs)), (3, V.c (C.int IntKind.i64 i3)), (10, V.c (C.bool false))], [])
theorem t38_0 (nl : Option Bool) (tt : Bool) (xs : List (List C)) (i3 : Int) : p38.lts b38_0 (s38_0 nl tt xs i3) = (Tr.br (decide (i3 < (↑xs.length : Int))) (Tr.chk (decide (0 ≤ i3)) (Tr.chk true (Tr.chk (decide (i3.toNat < xs.length)) (Tr.chk (shOk [Sk.str, Sk.int IntKind.i64, Sk.int IntKind.i64] (xs.getD i3.toNat [])) (Tr.br (decide (100 < (↑((xs.getD i3.toNat []).headD C.pnil).st.length : Int))) (Tr.leaf (R.x x38_0x0)) (Tr.leaf (R.s (s38_0 nl tt xs (IntKind.i64.wrap (i3 + 1)))))))))) (Tr.leaf (R.x (x38_0x1 nl tt xs i3)))) := by kernel_rfl
theorem k38_0x0 : p38.fkx 0 x38_0x0 = (Tr.leaf (R.out [V.c (C.bool false)] [])) := by kernel_rfl
theorem k38_0x1 (nl : Option Bool) (tt : Bool) (xs : List (List C)) (i3 : Int) : p38.fkx 0 (x38_0x1 nl tt xs i3) = (Tr.leaf (R.out [V.c (C.bool true)] [])) := by kernel_rfl
theorem t38 (nl : Option Bool) (tt : Bool) (xs : List (List C)) : p38.ft ([V.c (C.sl 3 nl tt xs)]) ([]) = (Tr.br (decide (200 < (↑xs.length : Int))) (Tr.leaf (R.out [V.c (C.bool false)] [])) (Tr.ls 0 (s38_0 nl tt xs (0)))) := by kernel_rfl
noncomputable abbrev p78 : Par := par E sh (ctOf []) 78 1 0
theorem t78 (n : Int) : p78.ft ([V.i n]) ([]) = (Tr.leaf (R.out [V.c (C.sl 5 none false [[C.int IntKind.i64 0, C.int IntKind.i64 9, C.int IntKind.i64 1, C.int IntKind.i64 n, C.str []]])] [])) := by kernel_rfl
end Go.Proofs.YtbilmkcdhodenaaDoor

end

/-
  Chapter 13 (posting): Of, On; the reference's Of, Probe, Under, On; few.
-/
section
namespace Go.Proofs.YtbilmkcdhodenaaDoor
open Go Go.Ev

/-- A change, as it is read: of its slices nothing more is known than what they hold. -/
def eg0 (p : List UInt8) (h n : List Row) : List C := [.str p, .sl 5 none false (rows h), .sl 5 none false (rows n)]
structure Ch where
  p : List UInt8
  h : List Row
  n : List Row
  deriving DecidableEq, Inhabited
def Ch.chg (x : Ch) : Chg := ⟨x.p, none, false, x.h, none, false, x.n⟩
def ech (x : Ch) : List C := [.str x.p, .sl 5 none false (rows x.h), .sl 5 none false (rows x.n)]
def chs (l : List Ch) : List (List C) := l.map ech
@[simp] theorem chs_length (l : List Ch) : (chs l).length = l.length := by simp [chs]
theorem chs_getD {l : List Ch} {i : Nat} (h : i < l.length) : (chs l).getD i [] = ech l[i] := by simp [chs, List.getD_eq_getElem?_getD, h]
theorem ech_ok (x : Ch) : shOk [Sk.str, Sk.sl 5, Sk.sl 5] (ech x) = true := rfl
theorem ech_p (x : Ch) (d : C) : ((ech x).headD d).st = x.p := rfl
theorem ech_h (x : Ch) (d : C) : ((ech x).tail.headD d).xs = rows x.h := rfl
theorem ech_n (x : Ch) (d : C) : ((ech x).tail.tail.headD d).xs = rows x.n := rfl

theorem f134 (l m : List Row) (nl : Option Bool) (tt : Bool) (nl2 : Option Bool) (t2 : Bool) (hl : l.length < 4294967296) : call E 134 [.c (.sl 5 nl tt (rows l)), .c (.sl 5 nl2 t2 (rows m))] [] = some ([V.b (decide (l = m))], []) := by
  refine call_of (E := E) (sh := sh) (ct := ctOf []) (na := 2) (m := 0) ctOf_nil rfl rfl rfl rfl rfl rfl ?_
  rw [t134]
  simp only [ld_br, ld_chk', ld_leaf, fd_br, fd_chk', fd_leaf, decide_true, decide_eq_true_eq, if_true, Int.toNat_natCast, Int.natCast_nonneg, Int.ofNat_lt, Int.ofNat_le, Bool.false_eq_true, if_false, bne_iff_ne, beq_iff_eq, ne_eq, not_true_eq_false, not_false_eq_true, Bool.not_eq_true', decide_eq_false_iff_not, reduceCtorEq, rows_length, pcs_length, er_ok, er_ok', ep_ok, ep_ok', dr_er, dp_ep, isRows_rows, isPcs_pcs, toRows_rows, toPcs_pcs, rows_take, rows_drop, pcs_take, pcs_drop, rows_append, pcs_append, ints_length, isInts_ints, toInts_ints, ei_i, ei_ok, mk_headD, ints_take, ints_drop, ints_append, ints_snoc, ints_snoc', List.take_length, Nat.zero_add, Nat.le_refl, er_a, er_b, er_k, er_n, er_s, er_v, ep_a, ep_b, ep_hk, ep_hn, ep_hs, ep_wk, ep_wn, ep_ws]
  by_cases h : l.length = m.length
  · have h' : ¬ ¬ (l.length : Int) = m.length := by omega
    rw [if_neg h']
    refine fd_post ctOf_nil (by kernel_rfl) rfl (list_post ctOf_nil (b := b134_0) l.length (fun k (_ : Unit) => s134_0 nl tt (rows l) nl2 t2 (rows m) l.length k) (fun k _ => l.take k = m.take k) _ ?_ ?_ 0 (Nat.zero_le _) () (by rfl))
    · intro k _ hk hi
      have hm : k < m.length := by omega
      rw [t134_0]
      simp only [ld_br, ld_chk', ld_leaf, fd_br, fd_chk', fd_leaf, decide_true, decide_eq_true_eq, if_true, Int.toNat_natCast, Int.natCast_nonneg, Int.ofNat_lt, Int.ofNat_le, Bool.false_eq_true, if_false, bne_iff_ne, beq_iff_eq, ne_eq, not_true_eq_false, not_false_eq_true, Bool.not_eq_true', decide_eq_false_iff_not, reduceCtorEq, rows_length, pcs_length, er_ok, er_ok', ep_ok, ep_ok', dr_er, dp_ep, isRows_rows, isPcs_pcs, toRows_rows, toPcs_pcs, rows_take, rows_drop, pcs_take, pcs_drop, rows_append, pcs_append, ints_length, isInts_ints, toInts_ints, ei_i, ei_ok, mk_headD, ints_take, ints_drop, ints_append, ints_snoc, ints_snoc', List.take_length, Nat.zero_add, Nat.le_refl, er_a, er_b, er_k, er_n, er_s, er_v, ep_a, ep_b, ep_hk, ep_hn, ep_hs, ep_wk, ep_wn, ep_ws, hk, hm, rows_getD hk, rows_getD hm, row_eqb, wrap_succ (show k < 9223372036854775807 by omega)]
      by_cases he : l[k] = m[k]
      · left
        exact ⟨(), take_ext hi hk hm he, by simp [he]⟩
      · right
        refine ⟨x134_0x0, by simp, ?_, by simp [he]⟩
        rw [k134_0x0, fd_leaf, decide_eq_false (fun e => he (by subst e; rfl))]
    · intro _ hi
      rw [t134_0]
      refine ⟨x134_0x1 nl tt (rows l) nl2 t2 (rows m) l.length l.length, by simp, ?_, by simp only [ld_br, ld_chk', ld_leaf, fd_br, fd_chk', fd_leaf, decide_true, decide_eq_true_eq, if_true, Int.toNat_natCast, Int.natCast_nonneg, Int.ofNat_lt, Int.ofNat_le, Bool.false_eq_true, if_false, bne_iff_ne, beq_iff_eq, ne_eq, not_true_eq_false, not_false_eq_true, Bool.not_eq_true', decide_eq_false_iff_not, reduceCtorEq, rows_length, pcs_length, er_ok, er_ok', ep_ok, ep_ok', dr_er, dp_ep, isRows_rows, isPcs_pcs, toRows_rows, toPcs_pcs, rows_take, rows_drop, pcs_take, pcs_drop, rows_append, pcs_append, ints_length, isInts_ints, toInts_ints, ei_i, ei_ok, mk_headD, ints_take, ints_drop, ints_append, ints_snoc, ints_snoc', List.take_length, Nat.zero_add, Nat.le_refl, er_a, er_b, er_k, er_n, er_s, er_v, ep_a, ep_b, ep_hk, ep_hn, ep_hs, ep_wk, ep_wn, ep_ws, Int.lt_irrefl]⟩
      rw [List.take_length, h, List.take_length] at hi
      rw [k134_0x1, fd_leaf, decide_eq_true hi]
  · have h' : ¬ (l.length : Int) = m.length := by omega
    rw [if_pos h', decide_eq_false (fun e => h (by rw [e]))]
theorem s134_ok : CSpecOk E 134 s134 := by
  intro a h cs vals h' he hc
  unfold s134 at he
  split at he <;> simp only [Option.some.injEq, Prod.mk.injEq, reduceCtorEq] at he
  rename_i nl tt xs nl2 t2 ys
  obtain ⟨rfl, rfl, rfl⟩ := he
  simp only [allT, Bool.and_true, Bool.and_eq_true, decide_eq_true_eq] at hc
  obtain ⟨h1, h2, h3⟩ := hc
  obtain ⟨l, rfl⟩ := rows_ex h1
  obtain ⟨m, rfl⟩ := rows_ex h2
  simp only [toRows_rows]
  exact f134 l m nl tt nl2 t2 (by simpa using h3)
theorem s134_ok' : CSpecOk E 72 s134 := by
  intro a h cs vals h' he hc
  unfold s134 at he
  split at he <;> simp only [Option.some.injEq, Prod.mk.injEq, reduceCtorEq] at he
  rename_i nl tt xs nl2 t2 ys
  obtain ⟨rfl, rfl, rfl⟩ := he
  simp only [allT, Bool.and_true, Bool.and_eq_true, decide_eq_true_eq] at hc
  obtain ⟨h1, h2, h3⟩ := hc
  obtain ⟨l, rfl⟩ := rows_ex h1
  obtain ⟨m, rfl⟩ := rows_ex h2
  simp only [toRows_rows]
  exact f72 l m nl tt nl2 t2 (by simpa using h3)
theorem s90_ok : CSpecOk E 90 s90 := by
  intro a h cs vals h' he hc
  unfold s90 at he
  split at he <;> simp only [Option.some.injEq, Prod.mk.injEq, reduceCtorEq] at he
  rename_i nl tt xs
  obtain ⟨rfl, rfl, rfl⟩ := he
  simp only [allT, Bool.and_true, Bool.and_eq_true, decide_eq_true_eq] at hc
  obtain ⟨l, rfl⟩ := rows_ex hc
  rw [toRows_rows]
  exact f90 l nl tt
theorem right_len' {l : List Row} (h : right l = true) : l.length ≤ 64 := by
  simp only [right, Bool.and_eq_true, decide_eq_true_eq] at h; exact h.1
theorem nil_iff {α : Type} (l : List α) : ((l.length : Int) == 0) = decide (l = []) := by
  cases l <;> simp; omega
theorem f91 (c : Chg) : call E 91 [.agg [.c (.str c.p), .c (.sl 5 c.hn c.ht (rows c.had)), .c (.sl 5 c.nn c.nt (rows c.now))]] [] = some ([V.i (kindP c)], []) := by
  refine call_of (E := E) (sh := sh) (ct := ctOf []) (na := 1) (m := 0) ctOf_nil rfl rfl rfl rfl rfl rfl ?_
  rw [t91]; simp only [rows_length, nil_iff, fd_br, fd_leaf, decide_eq_true_eq, kindP]
  split
  · rfl
  · split <;> rfl
theorem f88 (c : Chg) : call E 88 [.agg [.c (.str c.p), .c (.sl 5 c.hn c.ht (rows c.had)), .c (.sl 5 c.nn c.nt (rows c.now))]] [] = some ([V.i (if okC c = true then kindP c else 0), V.b (okC c)], []) := by
  refine call_of (E := E) (sh := sh) (ct := ctOf [(133, s133), (134, s134)]) (na := 1) (m := 0) (ctOf_cons s133_ok (ctOf_cons s134_ok ctOf_nil)) rfl rfl rfl rfl rfl rfl ?_
  rw [t88]; simp only [rows_length, nil_iff, ld_br, ld_chk', ld_leaf, fd_br, fd_chk', fd_leaf, decide_true, decide_eq_true_eq, if_true, Int.toNat_natCast, Int.natCast_nonneg, Int.ofNat_lt, Int.ofNat_le, Bool.false_eq_true, if_false, bne_iff_ne, beq_iff_eq, ne_eq, not_true_eq_false, not_false_eq_true, Bool.not_eq_true', decide_eq_false_iff_not, reduceCtorEq, rows_length, pcs_length, er_ok, er_ok', ep_ok, ep_ok', dr_er, dp_ep, isRows_rows, isPcs_pcs, toRows_rows, toPcs_pcs, rows_take, rows_drop, pcs_take, pcs_drop, rows_append, pcs_append, ints_length, isInts_ints, toInts_ints, ei_i, ei_ok, mk_headD, ints_take, ints_drop, ints_append, ints_snoc, ints_snoc', List.take_length, Nat.zero_add, Nat.le_refl, er_a, er_b, er_k, er_n, er_s, er_v, ep_a, ep_b, ep_hk, ep_hn, ep_hs, ep_wk, ep_wn, ep_ws, checkR_ne, okC, kindP]
  by_cases h1 : right c.had = true
  · by_cases h2 : right c.now = true
    · have h4 : c.had.length < 4294967296 := by have := right_len' h1; omega
      by_cases h5 : c.had = c.now
      · simp only [h1, h2, h5, h4, Bool.true_eq_false, if_false, if_true, decide_true, Bool.not_true, Bool.and_false, Bool.false_eq_true]
        rw [if_pos (by rw [← h5]; exact h4)]
      · simp only [h1, h2, h5, h4, Bool.true_eq_false, if_false, if_true, decide_false, Bool.not_false, Bool.and_true]
        split
        · rfl
        · split <;> rfl
    · rw [Bool.not_eq_true] at h2
      simp only [h1, h2, Bool.true_eq_false, if_false, if_true, Bool.and_false, Bool.false_and, Bool.false_eq_true]
  · rw [Bool.not_eq_true] at h1
    simp only [h1, if_true, Bool.false_and, Bool.false_eq_true, if_false]
theorem s91_ok : CSpecOk E 91 s91 := by
  intro a h cs vals h' he hc
  unfold s91 at he
  split at he <;> simp only [Option.some.injEq, Prod.mk.injEq, reduceCtorEq] at he
  rename_i p nl tt xs nl2 t2 ys
  obtain ⟨rfl, rfl, rfl⟩ := he
  simp only [allT, Bool.and_true, Bool.and_eq_true, decide_eq_true_eq] at hc
  obtain ⟨h1, h2⟩ := hc
  obtain ⟨l, rfl⟩ := rows_ex h1
  obtain ⟨m, rfl⟩ := rows_ex h2
  simp only [toRows_rows]
  exact f91 ⟨p, nl, tt, l, nl2, t2, m⟩
theorem s88_ok : CSpecOk E 88 s88 := by
  intro a h cs vals h' he hc
  unfold s88 at he
  split at he <;> simp only [Option.some.injEq, Prod.mk.injEq, reduceCtorEq] at he
  rename_i p nl tt xs nl2 t2 ys
  obtain ⟨rfl, rfl, rfl⟩ := he
  simp only [allT, Bool.and_true, Bool.and_eq_true, decide_eq_true_eq] at hc
  obtain ⟨h1, h2⟩ := hc
  obtain ⟨l, rfl⟩ := rows_ex h1
  obtain ⟨m, rfl⟩ := rows_ex h2
  simp only [toRows_rows]
  exact f88 ⟨p, nl, tt, l, nl2, t2, m⟩
/-! ## Of -/
theorem map_take_succ {l : List Ch} {n : Int} {k : Nat} (h : k < l.length) : ofG n ((l.take (k + 1)).map Ch.chg) = ofG n ((l.take k).map Ch.chg) ++ [⟨l[k].p, n, kindP l[k].chg⟩] := by
  rw [List.take_succ, List.getElem?_eq_getElem h]
  simp only [ofG, List.map_append, Option.toList_some, List.map_cons, List.map_nil]
  rfl
theorem take_psts (l : List Pst) (n : Nat) (h : l.length = n) : List.take n (psts l) = psts l := by rw [← h, ← psts_length l, List.take_length]
theorem ofG_len (n : Int) (l : List Chg) : (ofG n l).length = l.length := by simp [ofG]
def allC (l : List Ch) : Bool := l.all fun c => okC c.chg
theorem allC_take {l : List Ch} {k : Nat} (h : k < l.length) : allC (l.take (k + 1)) = (allC (l.take k) && okC l[k].chg) := by
  unfold allC
  rw [List.take_succ, List.getElem?_eq_getElem h]
  simp only [List.all_append, Option.toList_some, List.all_cons, List.all_nil, Bool.and_true]
theorem allC_false {l : List Ch} {k : Nat} (h : k < l.length) (hc : okC l[k].chg = false) : allC l = false := by
  unfold allC
  rw [List.all_eq_false]
  exact ⟨l[k], List.getElem_mem h, by simp [hc]⟩
theorem f48 (l : List Ch) (nl : Option Bool) (tt : Bool) (n : Int) (hl : l.length < 4294967290) : call E 48 [.c (.sl 3 nl tt (chs l)), V.i n] [] = some ([.c (.sl 3 none false (psts (ofP (l.map Ch.chg) n).1)), V.i (ofP (l.map Ch.chg) n).2], []) := by
  have hct : (ctOf [(88, s88), (43, s43)]).ok E := ctOf_cons s88_ok (ctOf_cons s43_ok ctOf_nil)
  refine call_of (E := E) (sh := sh) (ct := ctOf [(88, s88), (43, s43)]) (na := 2) (m := 0) hct rfl rfl rfl rfl rfl rfl ?_
  rw [t48, chs_length]
  refine fd_post hct (by kernel_rfl) rfl (list_post hct (b := b48_0) l.length (fun k (_ : Unit) => s48_0 nl tt (chs l) n k l.length k (psts (ofG n ((l.take k).map Ch.chg)))) (fun k _ => allC (l.take k) = true) _ ?_ ?_ 0 (Nat.zero_le _) () rfl)
  · rintro k _ hk hi
    have ht : List.take k (psts (ofG n ((l.take k).map Ch.chg))) = psts (ofG n ((l.take k).map Ch.chg)) := take_psts _ _ (by rw [ofG_len]; simp; omega)
    rw [t48_0]
    simp only [ld_br, ld_chk', ld_leaf, fd_br, fd_chk', fd_leaf, decide_true, decide_eq_true_eq, if_true, Int.toNat_natCast, Int.natCast_nonneg, Int.ofNat_lt, Int.ofNat_le, Bool.false_eq_true, if_false, bne_iff_ne, beq_iff_eq, ne_eq, not_true_eq_false, not_false_eq_true, Bool.not_eq_true', decide_eq_false_iff_not, reduceCtorEq, rows_length, pcs_length, er_ok, er_ok', ep_ok, ep_ok', dr_er, dp_ep, isRows_rows, isPcs_pcs, toRows_rows, toPcs_pcs, rows_take, rows_drop, pcs_take, pcs_drop, rows_append, pcs_append, ints_length, isInts_ints, toInts_ints, ei_i, ei_ok, mk_headD, ints_take, ints_drop, ints_append, ints_snoc, ints_snoc', List.take_length, Nat.zero_add, Nat.le_refl, er_a, er_b, er_k, er_n, er_s, er_v, ep_a, ep_b, ep_hk, ep_hn, ep_hs, ep_wk, ep_wn, ep_ws, hk, chs_length, chs_getD hk, ech_ok, ech_p, ech_h, ech_n, wrap_succ (show k < 9223372036854775807 by omega), ht, show k + 1 < 4294967296 by omega]
    by_cases h1 : okC l[k].chg = true
    · refine .inl ⟨(), by rw [allC_take hk, hi, h1]; rfl, ?_⟩
      have h1' : okC ⟨l[k].p, none, false, l[k].h, none, false, l[k].n⟩ = true := h1
      rw [h1', map_take_succ hk, ← psts_snoc]
      rfl
    · rw [Bool.not_eq_true] at h1
      have h1' : okC ⟨l[k].p, none, false, l[k].h, none, false, l[k].n⟩ = false := h1
      have hall : allC l = false := allC_false hk h1
      refine .inr ⟨x48_0x0 (psts (ofG n ((l.take k).map Ch.chg))) l[k].p none (rows l[k].h) (rows l[k].n), by simp, ?_, by rw [h1']; rfl⟩
      rw [k48_0x0, fd_leaf]
      have e : ofP (l.map Ch.chg) n = ([], 2) := if_neg (fun h => by
        have h2 : (l.map Ch.chg).all okC = true := h.1
        rw [List.all_map] at h2
        unfold allC at hall
        rw [show (okC ∘ Ch.chg) = fun c => okC c.chg from rfl, hall] at h2
        cases h2)
      rw [e]; rfl
  · rintro _ hi
    rw [List.take_length] at hi
    rw [t48_0]
    refine ⟨x48_0x1 nl tt (chs l) n l.length l.length l.length (psts (ofG n ((l.take l.length).map Ch.chg))), by simp, ?_, by simp only [ld_br, ld_chk', ld_leaf, fd_br, fd_chk', fd_leaf, decide_true, decide_eq_true_eq, if_true, Int.toNat_natCast, Int.natCast_nonneg, Int.ofNat_lt, Int.ofNat_le, Bool.false_eq_true, if_false, bne_iff_ne, beq_iff_eq, ne_eq, not_true_eq_false, not_false_eq_true, Bool.not_eq_true', decide_eq_false_iff_not, reduceCtorEq, rows_length, pcs_length, er_ok, er_ok', ep_ok, ep_ok', dr_er, dp_ep, isRows_rows, isPcs_pcs, toRows_rows, toPcs_pcs, rows_take, rows_drop, pcs_take, pcs_drop, rows_append, pcs_append, ints_length, isInts_ints, toInts_ints, ei_i, ei_ok, mk_headD, ints_take, ints_drop, ints_append, ints_snoc, ints_snoc', List.take_length, Nat.zero_add, Nat.le_refl, er_a, er_b, er_k, er_n, er_s, er_v, ep_a, ep_b, ep_hk, ep_hn, ep_hs, ep_wk, ep_wn, ep_ws, Int.lt_irrefl]⟩
    rw [List.take_length]
    have hlen : (ofG n (l.map Ch.chg)).length = l.length := by rw [ofG_len]; simp
    have ht : List.take l.length (psts (ofG n (l.map Ch.chg))) = psts (ofG n (l.map Ch.chg)) := take_psts _ _ hlen
    rw [k48_0x1]
    simp only [ht, psts_length, eo_ok, eo_ok', isPsts_psts, toPsts_psts, psts_take, psts_drop, psts_append, psts_snoc, psts_snoc', eo_p, eo_c, eo_k, eo_len, toPsts_length, dO_eo, eo_mk, ld_br, ld_chk', ld_leaf, fd_br, fd_chk', fd_leaf, decide_true, decide_eq_true_eq, if_true, Int.toNat_natCast, Int.natCast_nonneg, Int.ofNat_lt, Int.ofNat_le, Bool.false_eq_true, if_false, bne_iff_ne, beq_iff_eq, ne_eq, not_true_eq_false, not_false_eq_true, Bool.not_eq_true', decide_eq_false_iff_not, reduceCtorEq, rows_length, pcs_length, er_ok, er_ok', ep_ok, ep_ok', dr_er, dp_ep, isRows_rows, isPcs_pcs, toRows_rows, toPcs_pcs, rows_take, rows_drop, pcs_take, pcs_drop, rows_append, pcs_append, ints_length, isInts_ints, toInts_ints, ei_i, ei_ok, mk_headD, ints_take, ints_drop, ints_append, ints_snoc, ints_snoc', List.take_length, Nat.zero_add, Nat.le_refl, er_a, er_b, er_k, er_n, er_s, er_v, ep_a, ep_b, ep_hk, ep_hn, ep_hs, ep_wk, ep_wn, ep_ws, checkP_ne, hlen, show l.length < 4294967296 by omega]
    have hall : (l.map Ch.chg).all okC = true := by rw [List.all_map]; exact hi
    by_cases g1 : n < 1
    · have e : ofP (l.map Ch.chg) n = ([], 2) := if_neg (fun h => by omega)
      rw [if_pos g1, e]; rfl
    · by_cases g2 : 500 < n
      · have e : ofP (l.map Ch.chg) n = ([], 2) := if_neg (fun h => by omega)
        rw [if_neg g1, if_pos g2, e]; rfl
      · rw [if_neg g1, if_neg g2]
        by_cases g3 : okP (ofG n (l.map Ch.chg)) = true
        · have e : ofP (l.map Ch.chg) n = (ofG n (l.map Ch.chg), 0) := if_pos ⟨hall, by omega, by omega, g3⟩
          rw [e, g3]; rfl
        · have e : ofP (l.map Ch.chg) n = ([], 2) := if_neg (fun h => g3 h.2.2.2)
          rw [Bool.not_eq_true] at g3
          rw [e, g3]; rfl
end Go.Proofs.YtbilmkcdhodenaaDoor

end

/-
  Chapter 13 (posting): the reference's Of, Probe, Under, On; On; few.
-/
section
namespace Go.Proofs.YtbilmkcdhodenaaDoor
open Go Go.Ev

theorem kindP_ok (c : Chg) : 1 ≤ kindP c ∧ kindP c ≤ 3 := by
  unfold kindP
  split
  · omega
  · split <;> omega
theorem ofG_get {l : List Ch} {n : Int} {k : Nat} (h : k < (ofG n (l.map Ch.chg)).length) : (ofG n (l.map Ch.chg))[k] = ⟨(l[k]'(by rw [ofG_len] at h; simpa using h)).p, n, kindP (l[k]'(by rw [ofG_len] at h; simpa using h)).chg⟩ := by
  simp [ofG, Ch.chg]
theorem okOne_of {p : List UInt8} {n k : Int} (h1 : 1 ≤ n) (h2 : n ≤ 500) (h3 : 1 ≤ k ∧ k ≤ 3) : okOne ⟨p, n, k⟩ = isPath p := by
  simp [okOne, h1, h2, h3.1, h3.2]
theorem lessP_of {p q : List UInt8} {n k j : Int} : lessP ⟨p, n, k⟩ ⟨q, n, j⟩ = Op.bytesLess p q := by
  simp [lessP]
theorem okC_iff (x : Ch) : okC x.chg = (right x.h && right x.n && !decide (x.h = x.n)) := rfl
theorem f49 (l : List Ch) (nl : Option Bool) (tt : Bool) (n : Int) (hl : l.length < 4294967290) : call E 49 [.c (.sl 3 nl tt (chs l)), V.i n] [] = some ([.c (.sl 3 none false (psts (ofP (l.map Ch.chg) n).1)), V.i (ofP (l.map Ch.chg) n).2], []) := by
  have hct : (ctOf [(89, s84), (90, s90), (72, s134), (91, s91)]).ok E := ctOf_cons s84_ok' (ctOf_cons s90_ok (ctOf_cons s134_ok' (ctOf_cons s91_ok ctOf_nil)))
  refine call_of (E := E) (sh := sh) (ct := ctOf [(89, s84), (90, s90), (72, s134), (91, s91)]) (na := 2) (m := 0) hct rfl rfl rfl rfl rfl rfl ?_
  rw [t49]
  simp only [ld_br, ld_chk', ld_leaf, fd_br, fd_chk', fd_leaf, decide_true, decide_eq_true_eq, if_true, Int.toNat_natCast, Int.natCast_nonneg, Int.ofNat_lt, Int.ofNat_le, Bool.false_eq_true, if_false, bne_iff_ne, beq_iff_eq, ne_eq, not_true_eq_false, not_false_eq_true, Bool.not_eq_true', decide_eq_false_iff_not, reduceCtorEq, rows_length, pcs_length, er_ok, er_ok', ep_ok, ep_ok', dr_er, dp_ep, isRows_rows, isPcs_pcs, toRows_rows, toPcs_pcs, rows_take, rows_drop, pcs_take, pcs_drop, rows_append, pcs_append, ints_length, isInts_ints, toInts_ints, ei_i, ei_ok, mk_headD, ints_take, ints_drop, ints_append, ints_snoc, ints_snoc', List.take_length, Nat.zero_add, Nat.le_refl, er_a, er_b, er_k, er_n, er_s, er_v, ep_a, ep_b, ep_hk, ep_hn, ep_hs, ep_wk, ep_wn, ep_ws]
  by_cases g1 : n < 1
  · have e : ofP (l.map Ch.chg) n = ([], 2) := if_neg (fun h => by omega)
    rw [if_pos g1, e]; rfl
  rw [if_neg g1]
  by_cases g2 : 500 < n
  · have e : ofP (l.map Ch.chg) n = ([], 2) := if_neg (fun h => by omega)
    rw [if_pos g2, e]; rfl
  rw [if_neg g2]
  obtain ⟨s, hs⟩ : ∃ s, s = ofG n (l.map Ch.chg) := ⟨_, rfl⟩
  have hlen : s.length = l.length := by rw [hs, ofG_len]; simp
  have hget : ∀ (k : Nat) (h : k < s.length), s[k] = ⟨(l[k]'(by omega)).p, n, kindP (l[k]'(by omega)).chg⟩ := by
    subst hs; exact fun k h => ofG_get h
  have bad : okP s = false ∨ allC l = false → ofP (l.map Ch.chg) n = ([], 2) := by
    intro h
    refine if_neg fun h2 => ?_
    rw [← hs] at h2
    rcases h with h | h
    · rw [h] at h2; exact absurd h2.2.2.2 (by simp)
    · have h3 : (l.map Ch.chg).all okC = true := h2.1
      rw [List.all_map] at h3
      unfold allC at h
      rw [show (okC ∘ Ch.chg) = fun c => okC c.chg from rfl, h] at h3
      cases h3
  refine fd_post hct (by kernel_rfl) rfl (list_post hct (b := b49_0) l.length (fun k (_ : Unit) => s49_0 nl tt (chs l) n k k (psts (ofG n ((l.take k).map Ch.chg)))) (fun k _ => okFromP (prevO s k) (s.drop k) = okP s ∧ allC (l.drop k) = allC l) _ ?_ ?_ 0 (Nat.zero_le _) () ⟨rfl, rfl⟩)
  · rintro k _ hk ⟨hi, hj⟩
    have hks : k < s.length := by omega
    have ht : List.take k (psts (ofG n ((l.take k).map Ch.chg))) = psts (ofG n ((l.take k).map Ch.chg)) := take_psts _ _ (by rw [ofG_len]; simp; omega)
    rw [List.drop_eq_getElem_cons hks, okFrom_cons, hget k hks, okOne_of (by omega) (by omega) (kindP_ok _)] at hi
    have hj' : (okC l[k].chg && allC (l.drop (k + 1))) = allC l := by rw [← hj, List.drop_eq_getElem_cons hk]; rfl
    have out : okP s = false ∨ allC l = false → p49.fd (p49.fkx 0 (x49_0x0 (psts (ofG n ((l.take k).map Ch.chg))) l[k].p none (rows l[k].h) (rows l[k].n))) = some (.out [.c (.sl 3 none false (psts (ofP (l.map Ch.chg) n).1)), V.i (ofP (l.map Ch.chg) n).2] []) := fun h => by
      rw [k49_0x0, fd_leaf, bad h]; rfl
    rw [t49_0]
    simp only [ld_br, ld_chk', ld_leaf, fd_br, fd_chk', fd_leaf, decide_true, decide_eq_true_eq, if_true, Int.toNat_natCast, Int.natCast_nonneg, Int.ofNat_lt, Int.ofNat_le, Bool.false_eq_true, if_false, bne_iff_ne, beq_iff_eq, ne_eq, not_true_eq_false, not_false_eq_true, Bool.not_eq_true', decide_eq_false_iff_not, reduceCtorEq, rows_length, pcs_length, er_ok, er_ok', ep_ok, ep_ok', dr_er, dp_ep, isRows_rows, isPcs_pcs, toRows_rows, toPcs_pcs, rows_take, rows_drop, pcs_take, pcs_drop, rows_append, pcs_append, ints_length, isInts_ints, toInts_ints, ei_i, ei_ok, mk_headD, ints_take, ints_drop, ints_append, ints_snoc, ints_snoc', List.take_length, Nat.zero_add, Nat.le_refl, er_a, er_b, er_k, er_n, er_s, er_v, ep_a, ep_b, ep_hk, ep_hn, ep_hs, ep_wk, ep_wn, ep_ws, hk, chs_length, chs_getD hk, ech_ok, ech_p, ech_h, ech_n, wrap_succ (show k < 9223372036854775807 by omega), ht, show k + 1 < 4294967296 by omega]
    by_cases c1 : isPath l[k].p = true
    · simp only [c1, Bool.true_eq_false, if_false]
      rw [c1, Bool.true_and] at hi
      cases k with
      | zero =>
        simp only [Int.natCast_zero, Int.lt_irrefl, if_false]
        simp only [prevO, if_true, Bool.true_and] at hi
        by_cases d1 : right l[0].h = true
        · by_cases d2 : right l[0].n = true
          · have d4 : l[0].h.length < 4294967296 := by have := right_len' d1; omega
            by_cases d3 : l[0].h = l[0].n
            · have hc : okC l[0].chg = false := by rw [okC_iff, d3]; simp
              rw [hc, Bool.false_and] at hj'
              exact .inr ⟨x49_0x0 (psts (ofG n ((l.take (0)).map Ch.chg))) l[0].p none (rows l[0].h) (rows l[0].n), by simp, out (.inr hj'.symm), by simp only [d1, d2, d4, Bool.true_eq_false, if_false, if_true]; rw [if_pos d3]⟩
            · have hc : okC l[0].chg = true := by rw [okC_iff, d1, d2]; simp [d3]
              rw [hc, Bool.true_and] at hj'
              refine .inl ⟨(), ⟨by rw [prevO_succ hks, hget (0) hks]; exact hi, hj'⟩, ?_⟩
              simp only [d1, d2, d4, d3, Bool.true_eq_false, if_false, if_true]
              rw [map_take_succ hk, ← psts_snoc]
              rfl
          · rw [Bool.not_eq_true] at d2
            have hc : okC l[0].chg = false := by rw [okC_iff, d2]; simp
            rw [hc, Bool.false_and] at hj'
            exact .inr ⟨x49_0x0 (psts (ofG n ((l.take (0)).map Ch.chg))) l[0].p none (rows l[0].h) (rows l[0].n), by simp, out (.inr hj'.symm), by simp only [d1, d2, Bool.true_eq_false, if_false, if_true]⟩
        · rw [Bool.not_eq_true] at d1
          have hc : okC l[0].chg = false := by rw [okC_iff, d1]; simp
          rw [hc, Bool.false_and] at hj'
          exact .inr ⟨x49_0x0 (psts (ofG n ((l.take (0)).map Ch.chg))) l[0].p none (rows l[0].h) (rows l[0].n), by simp, out (.inr hj'.symm), by simp only [d1, if_true]⟩
      | succ k =>
        have hk' : k < l.length := by omega
        have hks' : k < s.length := by omega
        rw [prevO_succ hks', hget k hks'] at hi
        simp only [lessP_of] at hi
        simp only [wrap_pred (show 0 < k + 1 by omega) (show k + 1 < 9223372036854775807 by omega), Nat.add_sub_cancel, ld_br, ld_chk', ld_leaf, fd_br, fd_chk', fd_leaf, decide_true, decide_eq_true_eq, if_true, Int.toNat_natCast, Int.natCast_nonneg, Int.ofNat_lt, Int.ofNat_le, Bool.false_eq_true, if_false, bne_iff_ne, beq_iff_eq, ne_eq, not_true_eq_false, not_false_eq_true, Bool.not_eq_true', decide_eq_false_iff_not, reduceCtorEq, rows_length, pcs_length, er_ok, er_ok', ep_ok, ep_ok', dr_er, dp_ep, isRows_rows, isPcs_pcs, toRows_rows, toPcs_pcs, rows_take, rows_drop, pcs_take, pcs_drop, rows_append, pcs_append, ints_length, isInts_ints, toInts_ints, ei_i, ei_ok, mk_headD, ints_take, ints_drop, ints_append, ints_snoc, ints_snoc', List.take_length, Nat.zero_add, Nat.le_refl, er_a, er_b, er_k, er_n, er_s, er_v, ep_a, ep_b, ep_hk, ep_hn, ep_hs, ep_wk, ep_wn, ep_ws, hk', chs_length, chs_getD hk', ech_ok, ech_p, show (0 : Int) < ((k + 1 : Nat) : Int) by omega]
        by_cases c2 : Op.bytesLess l[k].p l[k + 1].p = true
        · simp only [c2, Bool.true_eq_false, if_false]
          rw [c2, Bool.true_and] at hi
          by_cases d1 : right l[k + 1].h = true
          · by_cases d2 : right l[k + 1].n = true
            · have d4 : l[k + 1].h.length < 4294967296 := by have := right_len' d1; omega
              by_cases d3 : l[k + 1].h = l[k + 1].n
              · have hc : okC l[k + 1].chg = false := by rw [okC_iff, d3]; simp
                rw [hc, Bool.false_and] at hj'
                exact .inr ⟨x49_0x0 (psts (ofG n ((l.take (k + 1)).map Ch.chg))) l[k + 1].p none (rows l[k + 1].h) (rows l[k + 1].n), by simp, out (.inr hj'.symm), by simp only [d1, d2, d4, Bool.true_eq_false, if_false, if_true]; rw [if_pos d3]⟩
              · have hc : okC l[k + 1].chg = true := by rw [okC_iff, d1, d2]; simp [d3]
                rw [hc, Bool.true_and] at hj'
                refine .inl ⟨(), ⟨by rw [prevO_succ hks, hget (k + 1) hks]; exact hi, hj'⟩, ?_⟩
                simp only [d1, d2, d4, d3, Bool.true_eq_false, if_false, if_true]
                rw [map_take_succ hk, ← psts_snoc]
                rfl
            · rw [Bool.not_eq_true] at d2
              have hc : okC l[k + 1].chg = false := by rw [okC_iff, d2]; simp
              rw [hc, Bool.false_and] at hj'
              exact .inr ⟨x49_0x0 (psts (ofG n ((l.take (k + 1)).map Ch.chg))) l[k + 1].p none (rows l[k + 1].h) (rows l[k + 1].n), by simp, out (.inr hj'.symm), by simp only [d1, d2, Bool.true_eq_false, if_false, if_true]⟩
          · rw [Bool.not_eq_true] at d1
            have hc : okC l[k + 1].chg = false := by rw [okC_iff, d1]; simp
            rw [hc, Bool.false_and] at hj'
            exact .inr ⟨x49_0x0 (psts (ofG n ((l.take (k + 1)).map Ch.chg))) l[k + 1].p none (rows l[k + 1].h) (rows l[k + 1].n), by simp, out (.inr hj'.symm), by simp only [d1, if_true]⟩
        · rw [Bool.not_eq_true] at c2
          rw [c2, Bool.false_and] at hi
          exact .inr ⟨x49_0x0 (psts (ofG n ((l.take (k + 1)).map Ch.chg))) l[k + 1].p none (rows l[k + 1].h) (rows l[k + 1].n), by simp, out (.inl hi.symm), by simp only [c2, if_true]⟩
    · rw [Bool.not_eq_true] at c1
      rw [c1, Bool.false_and, Bool.false_and] at hi
      exact .inr ⟨x49_0x0 (psts (ofG n ((l.take k).map Ch.chg))) l[k].p none (rows l[k].h) (rows l[k].n), by simp, out (.inl hi.symm), by simp only [c1, if_true]⟩
  · rintro _ ⟨hi, hj⟩
    rw [List.drop_of_length_le (by omega), okFromP] at hi
    rw [List.drop_length] at hj
    rw [t49_0]
    refine ⟨x49_0x1 nl tt (chs l) n l.length l.length (psts (ofG n ((l.take l.length).map Ch.chg))), by simp, ?_, by simp only [ld_br, ld_chk', ld_leaf, fd_br, fd_chk', fd_leaf, decide_true, decide_eq_true_eq, if_true, Int.toNat_natCast, Int.natCast_nonneg, Int.ofNat_lt, Int.ofNat_le, Bool.false_eq_true, if_false, bne_iff_ne, beq_iff_eq, ne_eq, not_true_eq_false, not_false_eq_true, Bool.not_eq_true', decide_eq_false_iff_not, reduceCtorEq, rows_length, pcs_length, er_ok, er_ok', ep_ok, ep_ok', dr_er, dp_ep, isRows_rows, isPcs_pcs, toRows_rows, toPcs_pcs, rows_take, rows_drop, pcs_take, pcs_drop, rows_append, pcs_append, ints_length, isInts_ints, toInts_ints, ei_i, ei_ok, mk_headD, ints_take, ints_drop, ints_append, ints_snoc, ints_snoc', List.take_length, Nat.zero_add, Nat.le_refl, er_a, er_b, er_k, er_n, er_s, er_v, ep_a, ep_b, ep_hk, ep_hn, ep_hs, ep_wk, ep_wn, ep_ws, chs_length, Nat.lt_irrefl]⟩
    have ht : List.take l.length (psts (ofG n (l.map Ch.chg))) = psts (ofG n (l.map Ch.chg)) := take_psts _ _ (by rw [ofG_len]; simp)
    have hall : (l.map Ch.chg).all okC = true := by rw [List.all_map]; exact hj.symm
    have e : ofP (l.map Ch.chg) n = (ofG n (l.map Ch.chg), 0) := if_pos ⟨hall, by omega, by omega, by rw [← hs]; exact hi.symm⟩
    rw [k49_0x1, fd_leaf, e, List.take_length, ht]
end Go.Proofs.YtbilmkcdhodenaaDoor

end

/-
  Chapter 13 (posting): the reference's Probe, Under, On; On; few.
-/
section
namespace Go.Proofs.YtbilmkcdhodenaaDoor
open Go Go.Ev

theorem filter_take_succ {l : List Pst} (P : Pst → Bool) {k : Nat} (h : k < l.length) : (l.take (k + 1)).filter P = (l.take k).filter P ++ if P l[k] = true then [l[k]] else [] := by
  rw [List.take_succ, List.getElem?_eq_getElem h, List.filter_append]
  simp only [Option.toList_some, List.filter_cons, List.filter_nil]
theorem filter_len {l : List Pst} (P : Pst → Bool) (k : Nat) : ((l.take k).filter P).length ≤ k := by
  have := List.length_filter_le P (l.take k)
  simp at this; omega
theorem f50 (l : List Pst) (nl : Option Bool) (tt : Bool) (q : List UInt8) (hl : l.length < 4294967290) : call E 50 [.c (.sl 3 nl tt (psts l)), .c (.str q)] [] = some ([.c (.sl 3 none false (psts (probeP l q)))], []) := by
  have hct : (ctOf [(82, s82)]).ok E := ctOf_cons s82_ok ctOf_nil
  refine call_of (E := E) (sh := sh) (ct := ctOf [(82, s82)]) (na := 2) (m := 0) hct rfl rfl rfl rfl rfl rfl ?_
  rw [t50]
  refine fd_post hct (by kernel_rfl) rfl (list_post hct (b := b50_0) l.length (fun k (acc : List Pst) => s50_0 nl tt (psts l) q acc.length k (psts acc)) (fun k acc => acc = (l.take k).filter (fun x => decide (x.p = q)) ∧ (k = 0 ∨ okP l = true)) _ ?_ ?_ 0 (Nat.zero_le _) [] ⟨rfl, .inl rfl⟩)
  · rintro k acc hk ⟨rfl, hi⟩
    have hacc := filter_len (l := l) (fun x => decide (x.p = q)) k
    rw [t50_0]
    simp only [psts_length, eo_ok, eo_ok', isPsts_psts, toPsts_psts, psts_take, psts_drop, psts_append, psts_snoc, psts_snoc', eo_p, eo_c, eo_k, eo_len, toPsts_length, dO_eo, eo_mk, ld_br, ld_chk', ld_leaf, fd_br, fd_chk', fd_leaf, decide_true, decide_eq_true_eq, if_true, Int.toNat_natCast, Int.natCast_nonneg, Int.ofNat_lt, Int.ofNat_le, Bool.false_eq_true, if_false, bne_iff_ne, beq_iff_eq, ne_eq, not_true_eq_false, not_false_eq_true, Bool.not_eq_true', decide_eq_false_iff_not, reduceCtorEq, rows_length, pcs_length, er_ok, er_ok', ep_ok, ep_ok', dr_er, dp_ep, isRows_rows, isPcs_pcs, toRows_rows, toPcs_pcs, rows_take, rows_drop, pcs_take, pcs_drop, rows_append, pcs_append, ints_length, isInts_ints, toInts_ints, ei_i, ei_ok, mk_headD, ints_take, ints_drop, ints_append, ints_snoc, ints_snoc', List.take_length, Nat.zero_add, Nat.le_refl, er_a, er_b, er_k, er_n, er_s, er_v, ep_a, ep_b, ep_hk, ep_hn, ep_hs, ep_wk, ep_wn, ep_ws, hk, psts_getD hk, pst_eta, wrap_succ (show k < 9223372036854775807 by omega), show l.length < 4294967296 by omega, take_psts _ _ rfl, show ((l.take k).filter (fun x => decide (x.p = q))).length + 1 < 4294967296 by omega]
    by_cases g : okP l = true
    · rw [if_pos g]
      by_cases g1 : l[k].p = q
      · refine .inl ⟨(l.take (k + 1)).filter (fun x => decide (x.p = q)), ⟨rfl, .inr g⟩, ?_⟩
        rw [filter_take_succ _ hk]
        simp [g1]
      · refine .inl ⟨(l.take (k + 1)).filter (fun x => decide (x.p = q)), ⟨rfl, .inr g⟩, ?_⟩
        rw [filter_take_succ _ hk]
        simp [g1]
    · rcases hi with rfl | hi
      · refine .inr ⟨x50_0x0 nl tt (psts l) q 0 0 (psts []), by simp, ?_, by rw [if_neg g]; rfl⟩
        have e : probeP l q = [] := if_neg g
        rw [k50_0x0, fd_leaf, e]; rfl
      · exact absurd hi g
  · rintro acc ⟨rfl, hi⟩
    rw [t50_0]
    refine ⟨x50_0x0 nl tt (psts l) q ((l.take l.length).filter (fun x => decide (x.p = q))).length l.length (psts ((l.take l.length).filter (fun x => decide (x.p = q)))), by simp, ?_, by simp only [psts_length, eo_ok, eo_ok', isPsts_psts, toPsts_psts, psts_take, psts_drop, psts_append, psts_snoc, psts_snoc', eo_p, eo_c, eo_k, eo_len, toPsts_length, dO_eo, eo_mk, ld_br, ld_chk', ld_leaf, fd_br, fd_chk', fd_leaf, decide_true, decide_eq_true_eq, if_true, Int.toNat_natCast, Int.natCast_nonneg, Int.ofNat_lt, Int.ofNat_le, Bool.false_eq_true, if_false, bne_iff_ne, beq_iff_eq, ne_eq, not_true_eq_false, not_false_eq_true, Bool.not_eq_true', decide_eq_false_iff_not, reduceCtorEq, rows_length, pcs_length, er_ok, er_ok', ep_ok, ep_ok', dr_er, dp_ep, isRows_rows, isPcs_pcs, toRows_rows, toPcs_pcs, rows_take, rows_drop, pcs_take, pcs_drop, rows_append, pcs_append, ints_length, isInts_ints, toInts_ints, ei_i, ei_ok, mk_headD, ints_take, ints_drop, ints_append, ints_snoc, ints_snoc', List.take_length, Nat.zero_add, Nat.le_refl, er_a, er_b, er_k, er_n, er_s, er_v, ep_a, ep_b, ep_hk, ep_hn, ep_hs, ep_wk, ep_wn, ep_ws, Nat.lt_irrefl]⟩
    rw [k50_0x0, fd_leaf, take_psts _ _ rfl, List.take_length]
    unfold probeP
    rcases hi with hi | hi
    · obtain rfl := List.length_eq_zero_iff.1 hi
      simp
    · rw [if_pos hi]
theorem f52 (l : List Pst) (nl : Option Bool) (tt : Bool) (q : List UInt8) (hl : l.length < 4294967290) : call E 52 [.c (.sl 3 nl tt (psts l)), .c (.str q)] [] = some ([.c (.sl 3 none false (psts (underP l q)))], []) := by
  have hq : CSpecOk E 95 s137 := by
    intro a h cs vals h' he hc
    unfold s137 at he
    split at he <;> simp only [Option.some.injEq, Prod.mk.injEq, reduceCtorEq] at he
    obtain ⟨rfl, rfl, rfl⟩ := he
    exact f95 _ _
  have hct : (ctOf [(82, s82), (95, s137)]).ok E := ctOf_cons s82_ok (ctOf_cons hq ctOf_nil)
  refine call_of (E := E) (sh := sh) (ct := ctOf [(82, s82), (95, s137)]) (na := 2) (m := 0) hct rfl rfl rfl rfl rfl rfl ?_
  rw [t52]
  refine fd_post hct (by kernel_rfl) rfl (list_post hct (b := b52_0) l.length (fun k (acc : List Pst) => s52_0 nl tt (psts l) q acc.length k (psts acc)) (fun k acc => acc = (l.take k).filter (fun x => begins x.p q) ∧ (k = 0 ∨ okP l = true)) _ ?_ ?_ 0 (Nat.zero_le _) [] ⟨rfl, .inl rfl⟩)
  · rintro k acc hk ⟨rfl, hi⟩
    have hacc := filter_len (l := l) (fun x => begins x.p q) k
    rw [t52_0]
    simp only [psts_length, eo_ok, eo_ok', isPsts_psts, toPsts_psts, psts_take, psts_drop, psts_append, psts_snoc, psts_snoc', eo_p, eo_c, eo_k, eo_len, toPsts_length, dO_eo, eo_mk, ld_br, ld_chk', ld_leaf, fd_br, fd_chk', fd_leaf, decide_true, decide_eq_true_eq, if_true, Int.toNat_natCast, Int.natCast_nonneg, Int.ofNat_lt, Int.ofNat_le, Bool.false_eq_true, if_false, bne_iff_ne, beq_iff_eq, ne_eq, not_true_eq_false, not_false_eq_true, Bool.not_eq_true', decide_eq_false_iff_not, reduceCtorEq, rows_length, pcs_length, er_ok, er_ok', ep_ok, ep_ok', dr_er, dp_ep, isRows_rows, isPcs_pcs, toRows_rows, toPcs_pcs, rows_take, rows_drop, pcs_take, pcs_drop, rows_append, pcs_append, ints_length, isInts_ints, toInts_ints, ei_i, ei_ok, mk_headD, ints_take, ints_drop, ints_append, ints_snoc, ints_snoc', List.take_length, Nat.zero_add, Nat.le_refl, er_a, er_b, er_k, er_n, er_s, er_v, ep_a, ep_b, ep_hk, ep_hn, ep_hs, ep_wk, ep_wn, ep_ws, hk, psts_getD hk, pst_eta, wrap_succ (show k < 9223372036854775807 by omega), show l.length < 4294967296 by omega, take_psts _ _ rfl, show ((l.take k).filter (fun x => begins x.p q)).length + 1 < 4294967296 by omega]
    by_cases g : okP l = true
    · rw [if_pos g]
      by_cases g1 : begins l[k].p q = true
      · refine .inl ⟨(l.take (k + 1)).filter (fun x => begins x.p q), ⟨rfl, .inr g⟩, ?_⟩
        rw [filter_take_succ _ hk]
        simp [g1]
      · refine .inl ⟨(l.take (k + 1)).filter (fun x => begins x.p q), ⟨rfl, .inr g⟩, ?_⟩
        rw [filter_take_succ _ hk]
        simp [g1]
    · rcases hi with rfl | hi
      · refine .inr ⟨x52_0x0 nl tt (psts l) q 0 0 (psts []), by simp, ?_, by rw [if_neg g]; rfl⟩
        have e : underP l q = [] := if_neg g
        rw [k52_0x0, fd_leaf, e]; rfl
      · exact absurd hi g
  · rintro acc ⟨rfl, hi⟩
    rw [t52_0]
    refine ⟨x52_0x0 nl tt (psts l) q ((l.take l.length).filter (fun x => begins x.p q)).length l.length (psts ((l.take l.length).filter (fun x => begins x.p q))), by simp, ?_, by simp only [psts_length, eo_ok, eo_ok', isPsts_psts, toPsts_psts, psts_take, psts_drop, psts_append, psts_snoc, psts_snoc', eo_p, eo_c, eo_k, eo_len, toPsts_length, dO_eo, eo_mk, ld_br, ld_chk', ld_leaf, fd_br, fd_chk', fd_leaf, decide_true, decide_eq_true_eq, if_true, Int.toNat_natCast, Int.natCast_nonneg, Int.ofNat_lt, Int.ofNat_le, Bool.false_eq_true, if_false, bne_iff_ne, beq_iff_eq, ne_eq, not_true_eq_false, not_false_eq_true, Bool.not_eq_true', decide_eq_false_iff_not, reduceCtorEq, rows_length, pcs_length, er_ok, er_ok', ep_ok, ep_ok', dr_er, dp_ep, isRows_rows, isPcs_pcs, toRows_rows, toPcs_pcs, rows_take, rows_drop, pcs_take, pcs_drop, rows_append, pcs_append, ints_length, isInts_ints, toInts_ints, ei_i, ei_ok, mk_headD, ints_take, ints_drop, ints_append, ints_snoc, ints_snoc', List.take_length, Nat.zero_add, Nat.le_refl, er_a, er_b, er_k, er_n, er_s, er_v, ep_a, ep_b, ep_hk, ep_hn, ep_hs, ep_wk, ep_wn, ep_ws, Nat.lt_irrefl]⟩
    rw [k52_0x0, fd_leaf, take_psts _ _ rfl, List.take_length]
    unfold underP
    rcases hi with hi | hi
    · obtain rfl := List.length_eq_zero_iff.1 hi
      simp
    · rw [if_pos hi]

/-! ## On -/
theorem s97_ok : CSpecOk E 97 s97 := by
  intro a h cs vals h' he hc
  unfold s97 at he
  split at he <;> simp only [Option.some.injEq, Prod.mk.injEq, reduceCtorEq] at he
  obtain ⟨rfl, rfl, rfl⟩ := he
  exact (by refine call_of (E := E) (sh := sh) (ct := ctOf []) (na := 2) (m := 1) ctOf_nil rfl rfl rfl rfl rfl rfl ?_; rw [t97]; rfl)
theorem findC_at (n : Int) : ∀ (l : List Pst) (k : Nat), findC n l k = -1 ∧ (∀ x ∈ l, x.c ≠ n) ∨ ∃ i, ∃ h : i < l.length, findC n l k = ((k + i : Nat) : Int) ∧ l[i].c = n ∧ ∀ j, ∀ hj : j < i, (l[j]'(by omega)).c ≠ n
  | [], k => .inl ⟨rfl, by simp⟩
  | x :: r, k => by
    simp only [findC]
    by_cases h : x.c = n
    · rw [if_pos h]
      exact .inr ⟨0, by simp, by simp, h, fun j hj => absurd hj (by omega)⟩
    · rw [if_neg h]
      rcases findC_at n r (k + 1) with ⟨h1, h2⟩ | ⟨i, hi, h1, h2, h3⟩
      · refine .inl ⟨h1, fun y hy => ?_⟩
        rcases List.mem_cons.1 hy with rfl | hy
        · exact h
        · exact h2 y hy
      · refine .inr ⟨i + 1, by simpa using hi, by rw [h1]; congr 1; omega, by simpa using h2, fun j hj => ?_⟩
        cases j with
        | zero => simpa using h
        | succ j => simpa using h3 j (by omega)
theorem f96 (l : List Pst) (nl : Option Bool) (tt : Bool) (n : Int) (hl : l.length < 4294967296) : call E 96 [.c (.sl 3 nl tt (psts l)), .fn 97 [.ptr 0 0 0 0]] [.box [V.i n]] = some ([V.i (findC n l 0)], [.box [V.i n]]) := by
  have hct : (ctOf [(97, s97)]).ok E := ctOf_cons s97_ok ctOf_nil
  refine call_of (E := E) (sh := sh) (ct := ctOf [(97, s97)]) (na := 2) (m := 1) hct rfl rfl rfl rfl rfl rfl ?_
  rw [t96, psts_length]
  refine fd_post hct (by kernel_rfl) rfl (list_post hct (b := b96_0) l.length (fun k (_ : Unit) => s96_0 nl tt (psts l) n l.length k) (fun k _ => findC n (l.drop k) k = findC n l 0) _ ?_ ?_ 0 (Nat.zero_le _) () rfl)
  · rintro k _ hk hi
    rw [List.drop_eq_getElem_cons hk, findC] at hi
    rw [t96_0]
    simp only [psts_length, eo_ok, eo_ok', isPsts_psts, toPsts_psts, psts_take, psts_drop, psts_append, psts_snoc, psts_snoc', eo_p, eo_c, eo_k, eo_len, toPsts_length, dO_eo, eo_mk, ld_br, ld_chk', ld_leaf, fd_br, fd_chk', fd_leaf, decide_true, decide_eq_true_eq, if_true, Int.toNat_natCast, Int.natCast_nonneg, Int.ofNat_lt, Int.ofNat_le, Bool.false_eq_true, if_false, bne_iff_ne, beq_iff_eq, ne_eq, not_true_eq_false, not_false_eq_true, Bool.not_eq_true', decide_eq_false_iff_not, reduceCtorEq, rows_length, pcs_length, er_ok, er_ok', ep_ok, ep_ok', dr_er, dp_ep, isRows_rows, isPcs_pcs, toRows_rows, toPcs_pcs, rows_take, rows_drop, pcs_take, pcs_drop, rows_append, pcs_append, ints_length, isInts_ints, toInts_ints, ei_i, ei_ok, mk_headD, ints_take, ints_drop, ints_append, ints_snoc, ints_snoc', List.take_length, Nat.zero_add, Nat.le_refl, er_a, er_b, er_k, er_n, er_s, er_v, ep_a, ep_b, ep_hk, ep_hn, ep_hs, ep_wk, ep_wn, ep_ws, hk, psts_getD hk, wrap_succ (show k < 9223372036854775807 by omega)]
    by_cases h : l[k].c = n
    · rw [if_pos h] at hi
      exact .inr ⟨x96_0x0 n k, by simp, by rw [k96_0x0, fd_leaf, ← hi], by rw [if_pos h]⟩
    · rw [if_neg h] at hi
      exact .inl ⟨(), hi, by rw [if_neg h]⟩
  · rintro _ hi
    rw [List.drop_length, findC] at hi
    rw [t96_0]
    exact ⟨x96_0x1 nl tt (psts l) n l.length l.length, by simp, by rw [k96_0x1, fd_leaf, ← hi], by simp only [psts_length, eo_ok, eo_ok', isPsts_psts, toPsts_psts, psts_take, psts_drop, psts_append, psts_snoc, psts_snoc', eo_p, eo_c, eo_k, eo_len, toPsts_length, dO_eo, eo_mk, ld_br, ld_chk', ld_leaf, fd_br, fd_chk', fd_leaf, decide_true, decide_eq_true_eq, if_true, Int.toNat_natCast, Int.natCast_nonneg, Int.ofNat_lt, Int.ofNat_le, Bool.false_eq_true, if_false, bne_iff_ne, beq_iff_eq, ne_eq, not_true_eq_false, not_false_eq_true, Bool.not_eq_true', decide_eq_false_iff_not, reduceCtorEq, rows_length, pcs_length, er_ok, er_ok', ep_ok, ep_ok', dr_er, dp_ep, isRows_rows, isPcs_pcs, toRows_rows, toPcs_pcs, rows_take, rows_drop, pcs_take, pcs_drop, rows_append, pcs_append, ints_length, isInts_ints, toInts_ints, ei_i, ei_ok, mk_headD, ints_take, ints_drop, ints_append, ints_snoc, ints_snoc', List.take_length, Nat.zero_add, Nat.le_refl, er_a, er_b, er_k, er_n, er_s, er_v, ep_a, ep_b, ep_hk, ep_hn, ep_hs, ep_wk, ep_wn, ep_ws, Int.lt_irrefl]⟩
theorem s96_ok : CSpecOk E 96 s96 := by
  intro a h cs vals h' he hc
  unfold s96 at he
  split at he <;> simp only [Option.some.injEq, Prod.mk.injEq, reduceCtorEq] at he
  rename_i nl tt xs n
  obtain ⟨rfl, rfl, rfl⟩ := he
  simp only [allT, Bool.and_true, Bool.and_eq_true, decide_eq_true_eq] at hc
  obtain ⟨h1, h2⟩ := hc
  obtain ⟨l, rfl⟩ := psts_ex h1
  simp only [toPsts_psts]
  exact f96 l nl tt n (by simpa using h2)
theorem s47_ok : CSpecOk E 47 s47 := by
  intro a h cs vals h' he hc
  unfold s47 at he
  split at he <;> simp only [Option.some.injEq, Prod.mk.injEq, reduceCtorEq] at he
  rename_i nl tt xs q
  obtain ⟨rfl, rfl, rfl⟩ := he
  simp only [allT, Bool.and_true, Bool.and_eq_true, decide_eq_true_eq] at hc
  obtain ⟨h1, h2, h3⟩ := hc
  obtain ⟨l, rfl⟩ := psts_ex h1
  simp only [toPsts_psts]
  exact f47 l nl tt q (by simpa using h2) (by simpa [psts] using h3)
theorem s50_ok : CSpecOk E 50 s50 := by
  intro a h cs vals h' he hc
  unfold s50 at he
  split at he <;> simp only [Option.some.injEq, Prod.mk.injEq, reduceCtorEq] at he
  rename_i nl tt xs q
  obtain ⟨rfl, rfl, rfl⟩ := he
  simp only [allT, Bool.and_true, Bool.and_eq_true, decide_eq_true_eq] at hc
  obtain ⟨h1, h2⟩ := hc
  obtain ⟨l, rfl⟩ := psts_ex h1
  simp only [toPsts_psts]
  exact f50 l nl tt q (Nat.lt_of_lt_of_le (by simpa using h2 : l.length < 1000000) (by decide))
theorem probe_rise {l : List Pst} {q : List UInt8} : (probeP l q).Pairwise (fun x y => lessP x y = true) := by
  unfold probeP
  split
  · rename_i h; exact (okP_lt h).filter _
  · exact List.Pairwise.nil
theorem probe_p {l : List Pst} {q : List UInt8} {x : Pst} (h : x ∈ probeP l q) : x.p = q := by
  unfold probeP at h
  split at h
  · simpa using (List.mem_filter.1 h).2
  · simp at h
/-- Of rising postings of one path at most one is of a commit. -/
theorem filter_one : ∀ {l : List Pst} {q : List UInt8}, l.Pairwise (fun x y => lessP x y = true) → (∀ x ∈ l, x.p = q) → ∀ n : Int, l.filter (fun x => decide (x.c = n)) = match l[(findC n l 0).toNat]? with
    | some x => if 0 ≤ findC n l 0 then [x] else []
    | none => [] := by
  intro l q hp hq n
  rcases findC_at n l 0 with ⟨h1, h2⟩ | ⟨i, hi, h1, h2, h3⟩
  · have e : l.filter (fun x => decide (x.c = n)) = [] := List.filter_eq_nil_iff.2 fun x hx => by simpa using h2 x hx
    rw [e, h1]
    split <;> simp
  · rw [h1, Nat.zero_add, Int.toNat_natCast, List.getElem?_eq_getElem hi]
    simp only [Int.natCast_nonneg, if_true]
    have split3 : l = l.take i ++ l[i] :: l.drop (i + 1) := by rw [← List.drop_eq_getElem_cons hi, List.take_append_drop]
    rw [List.pairwise_iff_getElem] at hp
    have e1 : (l.take i).filter (fun x => decide (x.c = n)) = [] := List.filter_eq_nil_iff.2 fun x hx => by
      obtain ⟨j, hj, rfl⟩ := List.mem_iff_getElem.1 hx
      have hj' : j < i := by simp at hj; omega
      simpa using h3 j hj'
    have e2 : (l.drop (i + 1)).filter (fun x => decide (x.c = n)) = [] := List.filter_eq_nil_iff.2 fun x hx => by
      obtain ⟨j, hj, rfl⟩ := List.mem_iff_getElem.1 hx
      rw [List.length_drop] at hj
      rw [List.getElem_drop]
      have := hp i (i + 1 + j) hi (by omega) (by omega)
      rw [lessP_iff, hq _ (List.getElem_mem hi), hq _ (List.getElem_mem (show i + 1 + j < l.length by omega)), bl_irrefl] at this
      simp at this
      simp; omega
    conv => lhs; rw [split3]
    rw [List.filter_append, List.filter_cons, e1, e2]
    simp [h2]
/-- On, some commits being looked through. -/
def onS (x : List Pst) (s : List Int) : List Pst := s.flatMap fun n => x.filter fun y => decide (y.c = n)
theorem onS_take {x : List Pst} {s : List Int} {k : Nat} (h : k < s.length) : onS x (s.take (k + 1)) = onS x (s.take k) ++ x.filter fun y => decide (y.c = s[k]) := by
  unfold onS
  rw [List.take_succ, List.getElem?_eq_getElem h, List.flatMap_append]
  simp
theorem f53 (l : List Pst) (nl : Option Bool) (tt : Bool) (q : List UInt8) (nl2 : Option Bool) (t2 : Bool) (s : List Int) (hl : l.length < 4294967290) (hn : nl ≠ some true ∨ l = []) (hs : s.length < 4294967290) : call E 53 [.c (.sl 3 nl tt (psts l)), .c (.str q), .c (.sl 1 nl2 t2 (ints s))] [] = some ([.c (.sl 3 none false (psts (onP l q s)))], []) := by
  have hct : (ctOf [(47, s47), (96, s96)]).ok E := ctOf_cons s47_ok (ctOf_cons s96_ok ctOf_nil)
  refine call_of (E := E) (sh := sh) (ct := ctOf [(47, s47), (96, s96)]) (na := 3) (m := 0) hct rfl rfl rfl rfl rfl rfl ?_
  rw [t53]
  have hn' : nl ≠ some true ∨ psts l = [] := by simpa [psts] using hn
  have hx := probe_rise (l := l) (q := q)
  have hxp : ∀ x ∈ probeP l q, x.p = q := fun x h => probe_p h
  have hlen : (probeP l q).length < 4294967290 := by
    unfold probeP
    split
    · have := List.length_filter_le (fun x : Pst => decide (x.p = q)) l; omega
    · simp
  have e : onP l q s = onS (probeP l q) s := rfl
  rw [e]
  simp only [psts_length, eo_ok, eo_ok', isPsts_psts, toPsts_psts, psts_take, psts_drop, psts_append, psts_snoc, psts_snoc', eo_p, eo_c, eo_k, eo_len, toPsts_length, dO_eo, eo_mk, ld_br, ld_chk', ld_leaf, fd_br, fd_chk', fd_leaf, decide_true, decide_eq_true_eq, if_true, Int.toNat_natCast, Int.natCast_nonneg, Int.ofNat_lt, Int.ofNat_le, Bool.false_eq_true, if_false, bne_iff_ne, beq_iff_eq, ne_eq, not_true_eq_false, not_false_eq_true, Bool.not_eq_true', decide_eq_false_iff_not, reduceCtorEq, rows_length, pcs_length, er_ok, er_ok', ep_ok, ep_ok', dr_er, dp_ep, isRows_rows, isPcs_pcs, toRows_rows, toPcs_pcs, rows_take, rows_drop, pcs_take, pcs_drop, rows_append, pcs_append, ints_length, isInts_ints, toInts_ints, ei_i, ei_ok, mk_headD, ints_take, ints_drop, ints_append, ints_snoc, ints_snoc', List.take_length, Nat.zero_add, Nat.le_refl, er_a, er_b, er_k, er_n, er_s, er_v, ep_a, ep_b, ep_hk, ep_hn, ep_hs, ep_wk, ep_wn, ep_ws, show l.length < 4294967296 by omega, hn']
  generalize probeP l q = x at *
  have one : ∀ n, (x.filter fun y => decide (y.c = n)).length ≤ 1 := fun n => by
    rw [filter_one hx hxp n]
    split
    · split <;> simp
    · simp
  refine fd_post hct (by kernel_rfl) rfl (list_post hct (b := b53_0) s.length (fun k (acc : List Pst) => s53_0 nl2 t2 (ints s) none false (psts x) acc.length s.length k (psts acc)) (fun k acc => acc = onS x (s.take k) ∧ acc.length ≤ k) _ ?_ ?_ 0 (Nat.zero_le _) [] ⟨rfl, by simp⟩)
  · rintro k acc hk ⟨ha, hi⟩
    have hg : (ints s).getD k [] = ei s[k] := by rw [ints_getD hk]; simp [List.getD_eq_getElem?_getD, hk]
    refine .inl ⟨onS x (s.take (k + 1)), ⟨rfl, by rw [onS_take hk, ← ha]; have := one s[k]; simp; omega⟩, ?_⟩
    rw [t53_0]
    simp only [psts_length, eo_ok, eo_ok', isPsts_psts, toPsts_psts, psts_take, psts_drop, psts_append, psts_snoc, psts_snoc', eo_p, eo_c, eo_k, eo_len, toPsts_length, dO_eo, eo_mk, ld_br, ld_chk', ld_leaf, fd_br, fd_chk', fd_leaf, decide_true, decide_eq_true_eq, if_true, Int.toNat_natCast, Int.natCast_nonneg, Int.ofNat_lt, Int.ofNat_le, Bool.false_eq_true, if_false, bne_iff_ne, beq_iff_eq, ne_eq, not_true_eq_false, not_false_eq_true, Bool.not_eq_true', decide_eq_false_iff_not, reduceCtorEq, rows_length, pcs_length, er_ok, er_ok', ep_ok, ep_ok', dr_er, dp_ep, isRows_rows, isPcs_pcs, toRows_rows, toPcs_pcs, rows_take, rows_drop, pcs_take, pcs_drop, rows_append, pcs_append, ints_length, isInts_ints, toInts_ints, ei_i, ei_ok, mk_headD, ints_take, ints_drop, ints_append, ints_snoc, ints_snoc', List.take_length, Nat.zero_add, Nat.le_refl, er_a, er_b, er_k, er_n, er_s, er_v, ep_a, ep_b, ep_hk, ep_hn, ep_hs, ep_wk, ep_wn, ep_ws, hk, hg, wrap_succ (show k < 9223372036854775807 by omega), show x.length < 4294967296 by omega, take_psts _ _ rfl, show acc.length + 1 < 4294967296 by omega]
    rw [onS_take hk, ← ha, filter_one hx hxp]
    rcases findC_at s[k] x 0 with ⟨h1, h2⟩ | ⟨i, hi', h1, h2, h3⟩
    · rw [h1]
      simp
      split <;> simp
    · rw [h1, Nat.zero_add]
      simp only [psts_length, eo_ok, eo_ok', isPsts_psts, toPsts_psts, psts_take, psts_drop, psts_append, psts_snoc, psts_snoc', eo_p, eo_c, eo_k, eo_len, toPsts_length, dO_eo, eo_mk, ld_br, ld_chk', ld_leaf, fd_br, fd_chk', fd_leaf, decide_true, decide_eq_true_eq, if_true, Int.toNat_natCast, Int.natCast_nonneg, Int.ofNat_lt, Int.ofNat_le, Bool.false_eq_true, if_false, bne_iff_ne, beq_iff_eq, ne_eq, not_true_eq_false, not_false_eq_true, Bool.not_eq_true', decide_eq_false_iff_not, reduceCtorEq, rows_length, pcs_length, er_ok, er_ok', ep_ok, ep_ok', dr_er, dp_ep, isRows_rows, isPcs_pcs, toRows_rows, toPcs_pcs, rows_take, rows_drop, pcs_take, pcs_drop, rows_append, pcs_append, ints_length, isInts_ints, toInts_ints, ei_i, ei_ok, mk_headD, ints_take, ints_drop, ints_append, ints_snoc, ints_snoc', List.take_length, Nat.zero_add, Nat.le_refl, er_a, er_b, er_k, er_n, er_s, er_v, ep_a, ep_b, ep_hk, ep_hn, ep_hs, ep_wk, ep_wn, ep_ws, psts_getD hi', hi', List.getElem?_eq_getElem hi', List.length_append, List.length_cons, List.length_nil]
  · rintro acc ⟨ha, hi⟩
    rw [t53_0]
    refine ⟨x53_0x0 nl2 t2 (ints s) none false (psts x) acc.length s.length s.length (psts acc), by simp, ?_, by simp only [psts_length, eo_ok, eo_ok', isPsts_psts, toPsts_psts, psts_take, psts_drop, psts_append, psts_snoc, psts_snoc', eo_p, eo_c, eo_k, eo_len, toPsts_length, dO_eo, eo_mk, ld_br, ld_chk', ld_leaf, fd_br, fd_chk', fd_leaf, decide_true, decide_eq_true_eq, if_true, Int.toNat_natCast, Int.natCast_nonneg, Int.ofNat_lt, Int.ofNat_le, Bool.false_eq_true, if_false, bne_iff_ne, beq_iff_eq, ne_eq, not_true_eq_false, not_false_eq_true, Bool.not_eq_true', decide_eq_false_iff_not, reduceCtorEq, rows_length, pcs_length, er_ok, er_ok', ep_ok, ep_ok', dr_er, dp_ep, isRows_rows, isPcs_pcs, toRows_rows, toPcs_pcs, rows_take, rows_drop, pcs_take, pcs_drop, rows_append, pcs_append, ints_length, isInts_ints, toInts_ints, ei_i, ei_ok, mk_headD, ints_take, ints_drop, ints_append, ints_snoc, ints_snoc', List.take_length, Nat.zero_add, Nat.le_refl, er_a, er_b, er_k, er_n, er_s, er_v, ep_a, ep_b, ep_hk, ep_hn, ep_hs, ep_wk, ep_wn, ep_ws, Int.lt_irrefl]⟩
    rw [List.take_length] at ha
    rw [k53_0x0, fd_leaf, take_psts _ _ rfl, ha]
theorem f54 (l : List Pst) (nl : Option Bool) (tt : Bool) (q : List UInt8) (nl2 : Option Bool) (t2 : Bool) (s : List Int) (hl : l.length < 1000) (hs : s.length < 1000) : call E 54 [.c (.sl 3 nl tt (psts l)), .c (.str q), .c (.sl 1 nl2 t2 (ints s))] [] = some ([.c (.sl 3 none false (psts (onP l q s)))], []) := by
  have hct : (ctOf [(50, s50)]).ok E := ctOf_cons s50_ok ctOf_nil
  refine call_of (E := E) (sh := sh) (ct := ctOf [(50, s50)]) (na := 3) (m := 0) hct rfl rfl rfl rfl rfl rfl ?_
  rw [t54]
  have hlen : (probeP l q).length < 1000 := by
    unfold probeP
    split
    · have := List.length_filter_le (fun x : Pst => decide (x.p = q)) l; omega
    · simp
  have e : onP l q s = onS (probeP l q) s := rfl
  rw [e]
  simp only [psts_length, eo_ok, eo_ok', isPsts_psts, toPsts_psts, psts_take, psts_drop, psts_append, psts_snoc, psts_snoc', eo_p, eo_c, eo_k, eo_len, toPsts_length, dO_eo, eo_mk, ld_br, ld_chk', ld_leaf, fd_br, fd_chk', fd_leaf, decide_true, decide_eq_true_eq, if_true, Int.toNat_natCast, Int.natCast_nonneg, Int.ofNat_lt, Int.ofNat_le, Bool.false_eq_true, if_false, bne_iff_ne, beq_iff_eq, ne_eq, not_true_eq_false, not_false_eq_true, Bool.not_eq_true', decide_eq_false_iff_not, reduceCtorEq, rows_length, pcs_length, er_ok, er_ok', ep_ok, ep_ok', dr_er, dp_ep, isRows_rows, isPcs_pcs, toRows_rows, toPcs_pcs, rows_take, rows_drop, pcs_take, pcs_drop, rows_append, pcs_append, ints_length, isInts_ints, toInts_ints, ei_i, ei_ok, mk_headD, ints_take, ints_drop, ints_append, ints_snoc, ints_snoc', List.take_length, Nat.zero_add, Nat.le_refl, er_a, er_b, er_k, er_n, er_s, er_v, ep_a, ep_b, ep_hk, ep_hn, ep_hs, ep_wk, ep_wn, ep_ws, show l.length < 1000000 by omega]
  generalize probeP l q = x at *
  refine fd_post hct (by kernel_rfl) rfl (list_post hct (b := b54_0) s.length (fun k (acc : List Pst) => s54_0 nl2 t2 (ints s) none false (psts x) acc.length k (psts acc)) (fun k acc => acc = onS x (s.take k) ∧ acc.length ≤ 1000 * k) _ ?_ ?_ 0 (Nat.zero_le _) [] ⟨rfl, by simp⟩)
  · rintro k acc hk ⟨ha, hi⟩
    have hg : (ints s).getD k [] = ei s[k] := by rw [ints_getD hk]; simp [List.getD_eq_getElem?_getD, hk]
    have hle : (x.filter fun y => decide (y.c = s[k])).length ≤ 1000 := by have := List.length_filter_le (fun y : Pst => decide (y.c = s[k])) x; omega
    refine .inl ⟨onS x (s.take (k + 1)), ⟨rfl, by rw [onS_take hk, ← ha]; simp; omega⟩, ?_⟩
    rw [t54_0]
    simp only [ld_br, ints_length, Int.ofNat_lt, decide_eq_true_eq, hk, if_true]
    refine ld_post hct (by kernel_rfl) rfl (list_post hct (b := b54_0_0) x.length (fun j (ac : List Pst) => s54_0_0 nl2 t2 (ints s) none false (psts x) ac.length k (psts ac) j) (fun j ac => ac = acc ++ (x.take j).filter fun y => decide (y.c = s[k])) _ ?_ ?_ 0 (Nat.zero_le _) acc (by simp))
    · rintro j ac hj rfl
      have hfl := filter_len (l := x) (fun y => decide (y.c = s[k])) j
      have hal : (acc ++ (x.take j).filter fun y => decide (y.c = s[k])).length + 1 < 4294967296 := by simp; omega
      rw [t54_0_0]
      simp only [psts_length, eo_ok, eo_ok', isPsts_psts, toPsts_psts, psts_take, psts_drop, psts_append, psts_snoc, psts_snoc', eo_p, eo_c, eo_k, eo_len, toPsts_length, dO_eo, eo_mk, ld_br, ld_chk', ld_leaf, fd_br, fd_chk', fd_leaf, decide_true, decide_eq_true_eq, if_true, Int.toNat_natCast, Int.natCast_nonneg, Int.ofNat_lt, Int.ofNat_le, Bool.false_eq_true, if_false, bne_iff_ne, beq_iff_eq, ne_eq, not_true_eq_false, not_false_eq_true, Bool.not_eq_true', decide_eq_false_iff_not, reduceCtorEq, rows_length, pcs_length, er_ok, er_ok', ep_ok, ep_ok', dr_er, dp_ep, isRows_rows, isPcs_pcs, toRows_rows, toPcs_pcs, rows_take, rows_drop, pcs_take, pcs_drop, rows_append, pcs_append, ints_length, isInts_ints, toInts_ints, ei_i, ei_ok, mk_headD, ints_take, ints_drop, ints_append, ints_snoc, ints_snoc', List.take_length, Nat.zero_add, Nat.le_refl, er_a, er_b, er_k, er_n, er_s, er_v, ep_a, ep_b, ep_hk, ep_hn, ep_hs, ep_wk, ep_wn, ep_ws, hk, hg, hj, psts_getD hj, wrap_succ (show j < 9223372036854775807 by omega), take_psts _ _ rfl, hal]
      refine .inl ⟨acc ++ (x.take (j + 1)).filter fun y => decide (y.c = s[k]), rfl, ?_⟩
      rw [filter_take_succ _ hj]
      by_cases h : x[j].c = s[k]
      · simp [h, Nat.add_assoc]
      · simp [h]
    · rintro ac rfl
      rw [t54_0_0]
      refine ⟨x54_0_0x0 nl2 t2 (ints s) none false (psts x) (acc ++ (x.take x.length).filter fun y => decide (y.c = s[k])).length k (psts (acc ++ (x.take x.length).filter fun y => decide (y.c = s[k]))) x.length, by simp, ?_, by simp only [psts_length, eo_ok, eo_ok', isPsts_psts, toPsts_psts, psts_take, psts_drop, psts_append, psts_snoc, psts_snoc', eo_p, eo_c, eo_k, eo_len, toPsts_length, dO_eo, eo_mk, ld_br, ld_chk', ld_leaf, fd_br, fd_chk', fd_leaf, decide_true, decide_eq_true_eq, if_true, Int.toNat_natCast, Int.natCast_nonneg, Int.ofNat_lt, Int.ofNat_le, Bool.false_eq_true, if_false, bne_iff_ne, beq_iff_eq, ne_eq, not_true_eq_false, not_false_eq_true, Bool.not_eq_true', decide_eq_false_iff_not, reduceCtorEq, rows_length, pcs_length, er_ok, er_ok', ep_ok, ep_ok', dr_er, dp_ep, isRows_rows, isPcs_pcs, toRows_rows, toPcs_pcs, rows_take, rows_drop, pcs_take, pcs_drop, rows_append, pcs_append, ints_length, isInts_ints, toInts_ints, ei_i, ei_ok, mk_headD, ints_take, ints_drop, ints_append, ints_snoc, ints_snoc', List.take_length, Nat.zero_add, Nat.le_refl, er_a, er_b, er_k, er_n, er_s, er_v, ep_a, ep_b, ep_hk, ep_hn, ep_hs, ep_wk, ep_wn, ep_ws, Nat.lt_irrefl]⟩
      rw [k54_0_0x0, ld_leaf, onS_take hk, ← ha, List.take_length, wrap_succ (by omega)]
  · rintro acc ⟨ha, hi⟩
    rw [t54_0]
    refine ⟨x54_0x0 nl2 t2 (ints s) none false (psts x) acc.length s.length (psts acc), by simp, ?_, by simp only [psts_length, eo_ok, eo_ok', isPsts_psts, toPsts_psts, psts_take, psts_drop, psts_append, psts_snoc, psts_snoc', eo_p, eo_c, eo_k, eo_len, toPsts_length, dO_eo, eo_mk, ld_br, ld_chk', ld_leaf, fd_br, fd_chk', fd_leaf, decide_true, decide_eq_true_eq, if_true, Int.toNat_natCast, Int.natCast_nonneg, Int.ofNat_lt, Int.ofNat_le, Bool.false_eq_true, if_false, bne_iff_ne, beq_iff_eq, ne_eq, not_true_eq_false, not_false_eq_true, Bool.not_eq_true', decide_eq_false_iff_not, reduceCtorEq, rows_length, pcs_length, er_ok, er_ok', ep_ok, ep_ok', dr_er, dp_ep, isRows_rows, isPcs_pcs, toRows_rows, toPcs_pcs, rows_take, rows_drop, pcs_take, pcs_drop, rows_append, pcs_append, ints_length, isInts_ints, toInts_ints, ei_i, ei_ok, mk_headD, ints_take, ints_drop, ints_append, ints_snoc, ints_snoc', List.take_length, Nat.zero_add, Nat.le_refl, er_a, er_b, er_k, er_n, er_s, er_v, ep_a, ep_b, ep_hk, ep_hn, ep_hs, ep_wk, ep_wn, ep_ws, Nat.lt_irrefl]⟩
    rw [List.take_length] at ha
    rw [k54_0x0, fd_leaf, take_psts _ _ rfl, ha]
def fewP (l : List Pst) : Bool := decide (l.length ≤ 200) && l.all fun x => decide (x.p.length ≤ 100)
theorem f38 (l : List Pst) (nl : Option Bool) (tt : Bool) : call E 38 [.c (.sl 3 nl tt (psts l))] [] = some ([V.b (fewP l)], []) := by
  refine call_of (E := E) (sh := sh) (ct := ctOf []) (na := 1) (m := 0) ctOf_nil rfl rfl rfl rfl rfl rfl ?_
  rw [t38]
  simp only [psts_length, eo_ok, eo_ok', isPsts_psts, toPsts_psts, psts_take, psts_drop, psts_append, psts_snoc, psts_snoc', eo_p, eo_c, eo_k, eo_len, toPsts_length, dO_eo, eo_mk, ld_br, ld_chk', ld_leaf, fd_br, fd_chk', fd_leaf, decide_true, decide_eq_true_eq, if_true, Int.toNat_natCast, Int.natCast_nonneg, Int.ofNat_lt, Int.ofNat_le, Bool.false_eq_true, if_false, bne_iff_ne, beq_iff_eq, ne_eq, not_true_eq_false, not_false_eq_true, Bool.not_eq_true', decide_eq_false_iff_not, reduceCtorEq, rows_length, pcs_length, er_ok, er_ok', ep_ok, ep_ok', dr_er, dp_ep, isRows_rows, isPcs_pcs, toRows_rows, toPcs_pcs, rows_take, rows_drop, pcs_take, pcs_drop, rows_append, pcs_append, ints_length, isInts_ints, toInts_ints, ei_i, ei_ok, mk_headD, ints_take, ints_drop, ints_append, ints_snoc, ints_snoc', List.take_length, Nat.zero_add, Nat.le_refl, er_a, er_b, er_k, er_n, er_s, er_v, ep_a, ep_b, ep_hk, ep_hn, ep_hs, ep_wk, ep_wn, ep_ws]
  by_cases hl : (200 : Int) < l.length
  · have : fewP l = false := by simp [fewP]; omega
    rw [if_pos hl, this]
  rw [if_neg hl]
  have e : fewP l = l.all fun x => decide (x.p.length ≤ 100) := by simp [fewP]; omega
  rw [e]
  refine fd_post ctOf_nil (by kernel_rfl) rfl (list_post ctOf_nil (b := b38_0) l.length (fun k (_ : Unit) => s38_0 nl tt (psts l) k) (fun k _ => ((l.drop k).all fun x => decide (x.p.length ≤ 100)) = l.all fun x => decide (x.p.length ≤ 100)) _ ?_ ?_ 0 (Nat.zero_le _) () rfl)
  · rintro k _ hk hi
    rw [List.drop_eq_getElem_cons hk, List.all_cons] at hi
    rw [t38_0]
    simp only [psts_length, eo_ok, eo_ok', isPsts_psts, toPsts_psts, psts_take, psts_drop, psts_append, psts_snoc, psts_snoc', eo_p, eo_c, eo_k, eo_len, toPsts_length, dO_eo, eo_mk, ld_br, ld_chk', ld_leaf, fd_br, fd_chk', fd_leaf, decide_true, decide_eq_true_eq, if_true, Int.toNat_natCast, Int.natCast_nonneg, Int.ofNat_lt, Int.ofNat_le, Bool.false_eq_true, if_false, bne_iff_ne, beq_iff_eq, ne_eq, not_true_eq_false, not_false_eq_true, Bool.not_eq_true', decide_eq_false_iff_not, reduceCtorEq, rows_length, pcs_length, er_ok, er_ok', ep_ok, ep_ok', dr_er, dp_ep, isRows_rows, isPcs_pcs, toRows_rows, toPcs_pcs, rows_take, rows_drop, pcs_take, pcs_drop, rows_append, pcs_append, ints_length, isInts_ints, toInts_ints, ei_i, ei_ok, mk_headD, ints_take, ints_drop, ints_append, ints_snoc, ints_snoc', List.take_length, Nat.zero_add, Nat.le_refl, er_a, er_b, er_k, er_n, er_s, er_v, ep_a, ep_b, ep_hk, ep_hn, ep_hs, ep_wk, ep_wn, ep_ws, hk, psts_getD hk, wrap_succ (show k < 9223372036854775807 by omega)]
    by_cases h : l[k].p.length ≤ 100
    · exact .inl ⟨(), by rw [← hi]; simp [h], by rw [if_neg (by omega)]⟩
    · exact .inr ⟨x38_0x0, by simp, by rw [k38_0x0, fd_leaf, ← hi]; simp [h], by rw [if_pos (by omega)]⟩
  · rintro _ hi
    rw [List.drop_length] at hi
    rw [t38_0]
    exact ⟨x38_0x1 nl tt (psts l) l.length, by simp, by rw [k38_0x1, fd_leaf, ← hi]; rfl, by simp only [psts_length, eo_ok, eo_ok', isPsts_psts, toPsts_psts, psts_take, psts_drop, psts_append, psts_snoc, psts_snoc', eo_p, eo_c, eo_k, eo_len, toPsts_length, dO_eo, eo_mk, ld_br, ld_chk', ld_leaf, fd_br, fd_chk', fd_leaf, decide_true, decide_eq_true_eq, if_true, Int.toNat_natCast, Int.natCast_nonneg, Int.ofNat_lt, Int.ofNat_le, Bool.false_eq_true, if_false, bne_iff_ne, beq_iff_eq, ne_eq, not_true_eq_false, not_false_eq_true, Bool.not_eq_true', decide_eq_false_iff_not, reduceCtorEq, rows_length, pcs_length, er_ok, er_ok', ep_ok, ep_ok', dr_er, dp_ep, isRows_rows, isPcs_pcs, toRows_rows, toPcs_pcs, rows_take, rows_drop, pcs_take, pcs_drop, rows_append, pcs_append, ints_length, isInts_ints, toInts_ints, ei_i, ei_ok, mk_headD, ints_take, ints_drop, ints_append, ints_snoc, ints_snoc', List.take_length, Nat.zero_add, Nat.le_refl, er_a, er_b, er_k, er_n, er_s, er_v, ep_a, ep_b, ep_hk, ep_hn, ep_hs, ep_wk, ep_wn, ep_ws, Nat.lt_irrefl]⟩
theorem f39 : call E 39 [] [] = some ([V.b true], []) := call_iff.2 ⟨200, by kernel_rfl⟩
end Go.Proofs.YtbilmkcdhodenaaDoor

end
