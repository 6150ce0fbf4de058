/-
  Chapter 11 (delta), trees, written by a program: what comes of a path; right trees; sides; Chapter 11 (delta), trees, written by a program: what sides hands over; Chapter 11 (delta): what sides hands over; Chapter 11 (delta): what sides hands over, the whole; Chapter 11, plain: merges, changes, and what follows of them; Chapter 11 (delta): what comes of a path; whether trees are right; sides' closure; Chapter 11 (delta), trees, written by a program: Merge, Changes; Chapter 11 (delta): Merge, Changes; Chapter 11 (delta), trees, written by a program: what is small; Chapter 11 (delta): what is sm.
-/
import Derived.Test.YtgaabjmbnomimaaGreatDoorZqP1
set_option linter.all false
namespace Go.Proofs.YtgaabjmbnomimaaGreatDoor
open Go Go.Ev
-- cse
def pick3 (i : Int) (a b c : LLC) : List (List C) := if i = 0 then a else if i = 1 then b else c
def s155 : CSpec := fun a h => match a, h with
 | [.c (.int .i64 i), .c (.int .i64 k), .ptr 0 0 0 0], [.box [.c (.str p), .c (.sl 5 n0 t0 x0), .c (.sl 5 n1 t1 x1), .c (.sl 5 n2 t2 x2)]] => some ([decide ((i = 1 /\ k = 2) \/ (i = 0 /\ k = 2) \/ (i = 0 /\ k = 1)), isRows x0, isRows x1, isRows x2, decide (x0.length <= 9223372036854775807), decide (x1.length <= 9223372036854775807)], [V.b (decide (toRows (pick3 i x0 x1 x2) = toRows (pick3 k x0 x1 x2)))], [.box [.c (.str p), .c (.sl 5 n0 t0 x0), .c (.sl 5 n1 t1 x1), .c (.sl 5 n2 t2 x2)]])
 | _, _ => none
noncomputable abbrev p140 : Par := par E sh (ctOf [(48, s48)]) 140 1 0
theorem t140 (s : Bys) (rn : OBo) (rt : Bool) (xs : LLC) (kn : OBo) (kt : Bool) (ys : LLC) : p140.ft ([V.agg [V.c (C.str s), V.c (C.sl 5 rn rt xs), V.c (C.sl 3 kn kt ys)]]) ([]) = (Tr.chk (isRows xs) (Tr.chk (isL ys) (Tr.leaf (R.out [V.c (C.bool (checkT (Nd.node s (toRows xs) (decL ys)) != 0))] [])))) := by kernel_rfl
def s140 : CSpec := fun a h => match a, h with
 | [.agg [.c (.str s), .c (.sl 5 rn rt xs), .c (.sl 3 kn kt ys)]], [] => some ([isRows xs, isL ys], [V.b (!okR (.node s (toRows xs) (decL ys)))], [])
 | _, _ => none
noncomputable abbrev p177 : Par := par E sh (ctOf [(140, s140)]) 177 2 0
abbrev s177_0 (nl : OBo) (tt : Bool) (ys : LLC) (i7 : Int) (i8 : Int) : Fr × Hp := ([(0, V.c (C.sl 3 nl tt ys)), (1, V.fn 140 []), (7, V.c (C.int IntKind.i64 i7)), (8, V.c (C.int IntKind.i64 i8))], [])
noncomputable abbrev b177_0 : Code := loopAt (codeOf E (177)) 0
abbrev x177_0x0 (i8 : Int) : Ex × Fr × Hp := (Ex.ret, [(4, V.c (C.int IntKind.i64 i8))], [])
abbrev x177_0x1 (nl : OBo) (tt : Bool) (ys : LLC) (i7 : Int) (i8 : Int) : Ex × Fr × Hp := (Ex.exit 0, [(0, V.c (C.sl 3 nl tt ys)), (1, V.fn 140 []), (7, V.c (C.int IntKind.i64 i7)), (8, V.c (C.int IntKind.i64 i8)), (9, V.c (C.bool false))], [])
theorem t177_0 (nl : OBo) (tt : Bool) (ys : LLC) (i7 : Int) (i8 : Int) : p177.lts b177_0 (s177_0 nl tt ys i7 i8) = (Tr.br (decide (i8 < i7)) (Tr.chk (decide (0 <= i8)) (Tr.chk true (Tr.chk (decide (i8.toNat < ys.length)) (Tr.chk (shOk [Sk.str, Sk.sl 5, Sk.sl 3] (ys.getD i8.toNat [])) (Tr.chk (isRows ((ys.getD i8.toNat []).tail.headD C.pnil).xs) (Tr.chk (isL ((ys.getD i8.toNat []).tail.tail.headD C.pnil).xs) (Tr.br (!okR (Nd.node ((ys.getD i8.toNat []).headD C.pnil).st (toRows ((ys.getD i8.toNat []).tail.headD C.pnil).xs) (decL ((ys.getD i8.toNat []).tail.tail.headD C.pnil).xs))) (Tr.leaf (R.x (x177_0x0 i8))) (Tr.leaf (R.s (s177_0 nl tt ys i7 (IntKind.i64.wrap (i8 + 1)))))))))))) (Tr.leaf (R.x (x177_0x1 nl tt ys i7 i8)))) := by kernel_rfl
theorem k177_0x0 (i8 : Int) : p177.fkx 0 (x177_0x0 i8) = (Tr.leaf (R.out [V.c (C.int IntKind.i64 i8)] [])) := by kernel_rfl
theorem k177_0x1 (nl : OBo) (tt : Bool) (ys : LLC) (i7 : Int) (i8 : Int) : p177.fkx 0 (x177_0x1 nl tt ys i7 i8) = (Tr.leaf (R.out [V.c (C.int IntKind.i64 (-1))] [])) := by kernel_rfl
theorem t177 (nl : OBo) (tt : Bool) (ys : LLC) : p177.ft ([V.c (C.sl 3 nl tt ys), V.fn 140 []]) ([]) = (Tr.ls 0 (s177_0 nl tt ys ((↑ys.length : Int)) (0))) := by kernel_rfl
def idxT (f : Nd -> Bool) : List Nd -> Nat -> Int
 | [], _ => -1
 | t :: r, k => if f t = true then k else idxT f r (k + 1)
def s177 : CSpec := fun a h => match a, h with
 | [.c (.sl 3 nl tt ys), .fn 140 []], [] => some ([isL ys, decide (ys.length <= 9223372036854775807)], [V.i (idxT (fun t => !okR t) (decL ys) 0)], [])
 | _, _ => none
noncomputable abbrev p139 : Par := par E sh (ctOf [(177, s177)]) 139 2 0
theorem t139 (nl : OBo) (tt : Bool) (ys : LLC) : p139.ft ([V.c (C.sl 3 nl tt ys), V.fn 140 []]) ([]) = (Tr.chk (isL ys) (Tr.chk (decide (ys.length <= 9223372036854775807)) (Tr.leaf (R.out [V.c (C.bool (decide (0 <= idxT (fun (t : Nd) => !okR t) (decL ys) 0)))] [])))) := by kernel_rfl
def s139 : CSpec := fun a h => match a, h with
 | [.c (.sl 3 nl tt ys), .fn 140 []], [] => some ([isL ys, decide (ys.length <= 9223372036854775807)], [V.b (!(decL ys).all okR)], [])
 | _, _ => none
noncomputable abbrev p88 : Par := par E sh (ctOf [(139, s139)]) 88 1 0
theorem t88 (nl : OBo) (tt : Bool) (ys : LLC) : p88.ft ([V.c (C.sl 3 nl tt ys)]) ([]) = (Tr.chk (isL ys) (Tr.chk (decide (ys.length <= 9223372036854775807)) (Tr.leaf (R.out [V.c (C.bool !!(decL ys).all okR)] [])))) := by kernel_rfl
noncomputable abbrev p93 : Par := par E sh (ctOf []) 93 1 0
theorem t93 (nl : OBo) (tt : Bool) (ys : LLC) : p93.ft ([V.c (C.sl 3 nl tt ys)]) ([]) = (Tr.leaf (R.out [V.fn 143 [V.ptr 0 0 0 0]] [O.box [V.c (C.sl 3 nl tt ys)]])) := by kernel_rfl
end Go.Proofs.YtgaabjmbnomimaaGreatDoor
namespace Go.Proofs.YtgaabjmbnomimaaGreatDoor
open Go Go.Ev
-- cse
noncomputable abbrev p143 : Par := par E sh (ctOf [(144, s144)]) 143 2 2
noncomputable abbrev bU137 : Code := loopAt (codeOf E (143)) 1
noncomputable abbrev bA137 : Code := loopAt (loopAt (codeOf E (143)) 1) 0
noncomputable abbrev bB137 : Code := loopAt (loopAt (codeOf E (143)) 1) 1
abbrev u137 (kn : OBo) (kt : Bool) (xsh : LLC) (r : List (List V)) (q : Bool) (n0 : OBo) (t0 : Bool) (x0 : LLC) (n1 : OBo) (t1 : Bool) (x1 : LLC) (n2 : OBo) (t2 : Bool) (x2 : LLC) : Fr × Hp := ([(0, V.yl 1), (3, V.ptr 2 0 0 0)], [O.box [V.c (C.sl 3 kn kt xsh)], O.yo r q, O.mem 1 0 [[C.sl 2 n0 t0 x0], [C.sl 2 n1 t1 x1], [C.sl 2 n2 t2 x2]]])
abbrev sA137 (kn : OBo) (kt : Bool) (xsh : LLC) (r : List (List V)) (q : Bool) (n0 : OBo) (t0 : Bool) (x0 : LLC) (n1 : OBo) (t1 : Bool) (x1 : LLC) (n2 : OBo) (t2 : Bool) (x2 : LLC) (p : Bys) (i : Int) : Fr × Hp := ([(0, V.yl 1), (3, V.ptr 2 0 0 0), (6, V.ptr 3 0 0 0), (24, V.agg [V.c (C.sl 2 n0 t0 x0), V.c (C.sl 2 n1 t1 x1), V.c (C.sl 2 n2 t2 x2)]), (25, V.i i)], [O.box [V.c (C.sl 3 kn kt xsh)], O.yo r q, O.mem 1 0 [[C.sl 2 n0 t0 x0], [C.sl 2 n1 t1 x1], [C.sl 2 n2 t2 x2]], O.box [V.c (C.str p), V.c (C.sl 5 (some true) true []), V.c (C.sl 5 (some true) true []), V.c (C.sl 5 (some true) true [])]])
abbrev xA137 (kn : OBo) (kt : Bool) (xsh : LLC) (r : List (List V)) (q : Bool) (n0 : OBo) (t0 : Bool) (x0 : LLC) (n1 : OBo) (t1 : Bool) (x1 : LLC) (n2 : OBo) (t2 : Bool) (x2 : LLC) (p : Bys) : Ex × Fr × Hp := (Ex.exit 4, [(0, V.yl 1), (3, V.ptr 2 0 0 0), (6, V.ptr 3 0 0 0), (24, V.agg [V.c (C.sl 2 n0 t0 x0), V.c (C.sl 2 n1 t1 x1), V.c (C.sl 2 n2 t2 x2)]), (25, V.i 3), (26, V.b false)], [O.box [V.c (C.sl 3 kn kt xsh)], O.yo r q, O.mem 1 0 [[C.sl 2 n0 t0 x0], [C.sl 2 n1 t1 x1], [C.sl 2 n2 t2 x2]], O.box [V.c (C.str p), V.c (C.sl 5 (some true) true []), V.c (C.sl 5 (some true) true []), V.c (C.sl 5 (some true) true [])]])
abbrev sB137 (kn : OBo) (kt : Bool) (xsh : LLC) (r : List (List V)) (q : Bool) (n0 : OBo) (t0 : Bool) (x0 : LLC) (n1 : OBo) (t1 : Bool) (x1 : LLC) (n2 : OBo) (t2 : Bool) (x2 : LLC) (a0 : OBo) (b0 : Bool) (y0 : LLC) (a1 : OBo) (b1 : Bool) (y1 : LLC) (a2 : OBo) (b2 : Bool) (y2 : LLC) (p : Bys) (c0 : OBo) (d0 : Bool) (z0 : LLC) (c1 : OBo) (d1 : Bool) (z1 : LLC) (c2 : OBo) (d2 : Bool) (z2 : LLC) (i : Int) : Fr × Hp := ([(0, V.yl 1), (3, V.ptr 2 0 0 0), (6, V.ptr 3 0 0 0), (54, V.agg [V.c (C.sl 2 n0 t0 x0), V.c (C.sl 2 n1 t1 x1), V.c (C.sl 2 n2 t2 x2)]), (55, V.i i)], [O.box [V.c (C.sl 3 kn kt xsh)], O.yo r q, O.mem 1 0 [[C.sl 2 a0 b0 y0], [C.sl 2 a1 b1 y1], [C.sl 2 a2 b2 y2]], O.box [V.c (C.str p), V.c (C.sl 5 c0 d0 z0), V.c (C.sl 5 c1 d1 z1), V.c (C.sl 5 c2 d2 z2)]])
abbrev xB137 (kn : OBo) (kt : Bool) (xsh : LLC) (r : List (List V)) (q : Bool) (n0 : OBo) (t0 : Bool) (x0 : LLC) (n1 : OBo) (t1 : Bool) (x1 : LLC) (n2 : OBo) (t2 : Bool) (x2 : LLC) (a0 : OBo) (b0 : Bool) (y0 : LLC) (a1 : OBo) (b1 : Bool) (y1 : LLC) (a2 : OBo) (b2 : Bool) (y2 : LLC) (p : Bys) (c0 : OBo) (d0 : Bool) (z0 : LLC) (c1 : OBo) (d1 : Bool) (z1 : LLC) (c2 : OBo) (d2 : Bool) (z2 : LLC) : Ex × Fr × Hp := (Ex.exit 6, [(0, V.yl 1), (3, V.ptr 2 0 0 0), (6, V.ptr 3 0 0 0), (54, V.agg [V.c (C.sl 2 n0 t0 x0), V.c (C.sl 2 n1 t1 x1), V.c (C.sl 2 n2 t2 x2)]), (55, V.i 3), (56, V.b false)], [O.box [V.c (C.sl 3 kn kt xsh)], O.yo r q, O.mem 1 0 [[C.sl 2 a0 b0 y0], [C.sl 2 a1 b1 y1], [C.sl 2 a2 b2 y2]], O.box [V.c (C.str p), V.c (C.sl 5 c0 d0 z0), V.c (C.sl 5 c1 d1 z1), V.c (C.sl 5 c2 d2 z2)]])
abbrev xE137 (kn : OBo) (kt : Bool) (xsh : LLC) (r : List (List V)) (q : Bool) (n0 : OBo) (t0 : Bool) (x0 : LLC) (n1 : OBo) (t1 : Bool) (x1 : LLC) (n2 : OBo) (t2 : Bool) (x2 : LLC) (p : Bys) : Ex × Fr × Hp := (Ex.ret, [(0, V.yl 1), (3, V.ptr 2 0 0 0), (6, V.ptr 3 0 0 0), (53, V.b true)], [O.box [V.c (C.sl 3 kn kt xsh)], O.yo r q, O.mem 1 0 [[C.sl 2 n0 t0 x0], [C.sl 2 n1 t1 x1], [C.sl 2 n2 t2 x2]], O.box [V.c (C.str p), V.c (C.sl 5 (some true) true []), V.c (C.sl 5 (some true) true []), V.c (C.sl 5 (some true) true [])]])
abbrev s143_0 (kn : OBo) (kt : Bool) (r : List (List V)) (q : Bool) (xs11 : LLC) (i12 : Int) (i13 : Int) (xsh0 : LLC) (ys2 : LLC) : Fr × Hp := ([(0, V.yl 1), (3, V.ptr 2 0 0 0), (11, V.c (C.sl 3 kn kt xs11)), (12, V.c (C.int IntKind.i64 i12)), (13, V.c (C.int IntKind.i64 i13))], [O.box [V.c (C.sl 3 kn kt xsh0)], O.yo r q, O.mem 1 0 ys2])
noncomputable abbrev b143_0 : Code := loopAt (codeOf E (143)) 0
abbrev x143_0x0 (kn : OBo) (kt : Bool) (r : List (List V)) (q : Bool) (xs11 : LLC) (i12 : Int) (i13 : Int) (xsh0 : LLC) (ys2 : LLC) : Ex × Fr × Hp := (Ex.exit 0, [(0, V.yl 1), (3, V.ptr 2 0 0 0), (11, V.c (C.sl 3 kn kt xs11)), (12, V.c (C.int IntKind.i64 i12)), (13, V.c (C.int IntKind.i64 i13)), (14, V.c (C.bool false))], [O.box [V.c (C.sl 3 kn kt xsh0)], O.yo r q, O.mem 1 0 ys2])
abbrev s143_1 (kn : OBo) (kt : Bool) (r : List (List V)) (q : Bool) (xsh0 : LLC) (ys2 : LLC) : Fr × Hp := ([(0, V.yl 1), (3, V.ptr 2 0 0 0)], [O.box [V.c (C.sl 3 kn kt xsh0)], O.yo r q, O.mem 1 0 ys2])
theorem t143_0 (kn : OBo) (kt : Bool) (r : List (List V)) (q : Bool) (xs11 : LLC) (i12 : Int) (i13 : Int) (xsh0 : LLC) (ys2 : LLC) : p143.lts b143_0 (s143_0 kn kt r q xs11 i12 i13 xsh0 ys2) = (Tr.br (decide (i13 < i12)) (Tr.chk (decide (0 <= i13)) (Tr.chk true (Tr.chk (decide (i13.toNat < xs11.length)) (Tr.chk (shOk [Sk.str, Sk.sl 5, Sk.sl 3] (xs11.getD i13.toNat [])) (Tr.chk (isRows ((xs11.getD i13.toNat []).tail.headD C.pnil).xs) (Tr.chk (isL ((xs11.getD i13.toNat []).tail.tail.headD C.pnil).xs) (Tr.chk (decide ((entL (decL ((xs11.getD i13.toNat []).tail.tail.headD C.pnil).xs)).length < 1000000000)) (Tr.chk (decide (0 <= i13)) (Tr.chk (decide (i13 < (↑3 : Int))) (Tr.chk true (Tr.chk true (Tr.chk true (Tr.chk true (Tr.chk (decide (i13.toNat < ys2.length)) (Tr.chk true (Tr.chk (decide ((ys2.getD i13.toNat []).length = 1)) (Tr.leaf (R.s (s143_0 kn kt r q xs11 i12 (IntKind.i64.wrap (i13 + 1)) xsh0 (ys2.set i13.toNat [C.sl 2 none false (ents (entP (Nd.node ((xs11.getD i13.toNat []).headD C.pnil).st (toRows ((xs11.getD i13.toNat []).tail.headD C.pnil).xs) (decL ((xs11.getD i13.toNat []).tail.tail.headD C.pnil).xs))))])))))))))))))))))))) (Tr.leaf (R.x (x143_0x0 kn kt r q xs11 i12 i13 xsh0 ys2)))) := by kernel_rfl
theorem k143_0x0 (kn : OBo) (kt : Bool) (r : List (List V)) (q : Bool) (xs11 : LLC) (i12 : Int) (i13 : Int) (xsh0 : LLC) (ys2 : LLC) : p143.fkx 0 (x143_0x0 kn kt r q xs11 i12 i13 xsh0 ys2) = (Tr.ls 1 (s143_1 kn kt r q xsh0 ys2)) := by kernel_rfl
theorem t137u (kn : OBo) (kt : Bool) (xsh : LLC) (r : List (List V)) (q : Bool) (n0 : OBo) (t0 : Bool) (x0 : LLC) (n1 : OBo) (t1 : Bool) (x1 : LLC) (n2 : OBo) (t2 : Bool) (x2 : LLC) : p143.lts bU137 (u137 kn kt xsh r q n0 t0 x0 n1 t1 x1 n2 t2 x2) = Tr.ls 0 (sA137 kn kt xsh r q n0 t0 x0 n1 t1 x1 n2 t2 x2 [] 0) := by kernel_rfl
abbrev x137A0x0 (kn : OBo) (kt : Bool) (xsh : LLC) (r : List (List V)) (q : Bool) (n0 : OBo) (t0 : Bool) (x0 : LLC) (n1 : OBo) (t1 : Bool) (x1 : LLC) (n2 : OBo) (t2 : Bool) (x2 : LLC) (p : Bys) (ys2 : LLC) : Ex × Fr × Hp := (Ex.exit 4, [(0, V.yl 1), (3, V.ptr 2 0 0 0), (6, V.ptr 3 0 0 0), (24, V.agg [V.c (C.sl 2 n0 t0 x0), V.c (C.sl 2 n1 t1 x1), V.c (C.sl 2 n2 t2 x2)]), (25, V.c (C.int IntKind.i64 0)), (26, V.c (C.bool false))], [O.box [V.c (C.sl 3 kn kt xsh)], O.yo r q, O.mem 1 0 ys2, O.box [V.c (C.str p), V.c (C.sl 5 (some true) true []), V.c (C.sl 5 (some true) true []), V.c (C.sl 5 (some true) true [])]])
theorem t137A0 (kn : OBo) (kt : Bool) (xsh : LLC) (r : List (List V)) (q : Bool) (n0 : OBo) (t0 : Bool) (x0 : LLC) (n1 : OBo) (t1 : Bool) (x1 : LLC) (n2 : OBo) (t2 : Bool) (x2 : LLC) (p : Bys) : p143.lts bA137 (sA137 kn kt xsh r q n0 t0 x0 n1 t1 x1 n2 t2 x2 p 0) = (Tr.br true (Tr.br (decide (0 < (↑x0.length : Int))) (Tr.br (p == []) (Tr.chk true (Tr.chk true (Tr.chk (decide (Int.toNat 0 < x0.length)) (Tr.chk (shOk [Sk.str, Sk.sl 5] (x0.getD (Int.toNat 0) [])) (Tr.leaf (R.st Ex.nrm [(0, V.yl 1), (3, V.ptr 2 0 0 0), (6, V.ptr 3 0 0 0), (24, V.agg [V.c (C.sl 2 n0 t0 x0), V.c (C.sl 2 n1 t1 x1), V.c (C.sl 2 n2 t2 x2)]), (25, V.c (C.int IntKind.i64 1))] [O.box [V.c (C.sl 3 kn kt xsh)], O.yo r q, O.mem 1 0 [[C.sl 2 n0 t0 x0], [C.sl 2 n1 t1 x1], [C.sl 2 n2 t2 x2]], O.box [V.c (C.str ((x0.getD (Int.toNat 0) []).headD C.pnil).st), V.c (C.sl 5 (some true) true []), V.c (C.sl 5 (some true) true []), V.c (C.sl 5 (some true) true [])]])))))) (Tr.chk true (Tr.chk true (Tr.chk (decide (Int.toNat 0 < x0.length)) (Tr.chk (shOk [Sk.str, Sk.sl 5] (x0.getD (Int.toNat 0) [])) (Tr.br (Op.bytesLess ((x0.getD (Int.toNat 0) []).headD C.pnil).st p) (Tr.chk true (Tr.chk true (Tr.chk (decide (Int.toNat 0 < x0.length)) (Tr.chk (shOk [Sk.str, Sk.sl 5] (x0.getD (Int.toNat 0) [])) (Tr.leaf (R.st Ex.nrm [(0, V.yl 1), (3, V.ptr 2 0 0 0), (6, V.ptr 3 0 0 0), (24, V.agg [V.c (C.sl 2 n0 t0 x0), V.c (C.sl 2 n1 t1 x1), V.c (C.sl 2 n2 t2 x2)]), (25, V.c (C.int IntKind.i64 1))] [O.box [V.c (C.sl 3 kn kt xsh)], O.yo r q, O.mem 1 0 [[C.sl 2 n0 t0 x0], [C.sl 2 n1 t1 x1], [C.sl 2 n2 t2 x2]], O.box [V.c (C.str ((x0.getD (Int.toNat 0) []).headD C.pnil).st), V.c (C.sl 5 (some true) true []), V.c (C.sl 5 (some true) true []), V.c (C.sl 5 (some true) true [])]])))))) (Tr.leaf (R.st Ex.nrm [(0, V.yl 1), (3, V.ptr 2 0 0 0), (6, V.ptr 3 0 0 0), (24, V.agg [V.c (C.sl 2 n0 t0 x0), V.c (C.sl 2 n1 t1 x1), V.c (C.sl 2 n2 t2 x2)]), (25, V.c (C.int IntKind.i64 1))] [O.box [V.c (C.sl 3 kn kt xsh)], O.yo r q, O.mem 1 0 [[C.sl 2 n0 t0 x0], [C.sl 2 n1 t1 x1], [C.sl 2 n2 t2 x2]], O.box [V.c (C.str p), V.c (C.sl 5 (some true) true []), V.c (C.sl 5 (some true) true []), V.c (C.sl 5 (some true) true [])]])))))))) (Tr.leaf (R.st Ex.nrm [(0, V.yl 1), (3, V.ptr 2 0 0 0), (6, V.ptr 3 0 0 0), (24, V.agg [V.c (C.sl 2 n0 t0 x0), V.c (C.sl 2 n1 t1 x1), V.c (C.sl 2 n2 t2 x2)]), (25, V.c (C.int IntKind.i64 1))] [O.box [V.c (C.sl 3 kn kt xsh)], O.yo r q, O.mem 1 0 [[C.sl 2 n0 t0 x0], [C.sl 2 n1 t1 x1], [C.sl 2 n2 t2 x2]], O.box [V.c (C.str p), V.c (C.sl 5 (some true) true []), V.c (C.sl 5 (some true) true []), V.c (C.sl 5 (some true) true [])]]))) (Tr.leaf (R.x (x137A0x0 kn kt xsh r q n0 t0 x0 n1 t1 x1 n2 t2 x2 p ([[C.sl 2 n0 t0 x0], [C.sl 2 n1 t1 x1], [C.sl 2 n2 t2 x2]]))))) := by kernel_rfl
abbrev x137A1x0 (kn : OBo) (kt : Bool) (xsh : LLC) (r : List (List V)) (q : Bool) (n0 : OBo) (t0 : Bool) (x0 : LLC) (n1 : OBo) (t1 : Bool) (x1 : LLC) (n2 : OBo) (t2 : Bool) (x2 : LLC) (p : Bys) (ys2 : LLC) : Ex × Fr × Hp := (Ex.exit 4, [(0, V.yl 1), (3, V.ptr 2 0 0 0), (6, V.ptr 3 0 0 0), (24, V.agg [V.c (C.sl 2 n0 t0 x0), V.c (C.sl 2 n1 t1 x1), V.c (C.sl 2 n2 t2 x2)]), (25, V.c (C.int IntKind.i64 1)), (26, V.c (C.bool false))], [O.box [V.c (C.sl 3 kn kt xsh)], O.yo r q, O.mem 1 0 ys2, O.box [V.c (C.str p), V.c (C.sl 5 (some true) true []), V.c (C.sl 5 (some true) true []), V.c (C.sl 5 (some true) true [])]])
theorem t137A1 (kn : OBo) (kt : Bool) (xsh : LLC) (r : List (List V)) (q : Bool) (n0 : OBo) (t0 : Bool) (x0 : LLC) (n1 : OBo) (t1 : Bool) (x1 : LLC) (n2 : OBo) (t2 : Bool) (x2 : LLC) (p : Bys) : p143.lts bA137 (sA137 kn kt xsh r q n0 t0 x0 n1 t1 x1 n2 t2 x2 p 1) = (Tr.br true (Tr.br (decide (0 < (↑x1.length : Int))) (Tr.br (p == []) (Tr.chk true (Tr.chk true (Tr.chk (decide (Int.toNat 0 < x1.length)) (Tr.chk (shOk [Sk.str, Sk.sl 5] (x1.getD (Int.toNat 0) [])) (Tr.leaf (R.st Ex.nrm [(0, V.yl 1), (3, V.ptr 2 0 0 0), (6, V.ptr 3 0 0 0), (24, V.agg [V.c (C.sl 2 n0 t0 x0), V.c (C.sl 2 n1 t1 x1), V.c (C.sl 2 n2 t2 x2)]), (25, V.c (C.int IntKind.i64 2))] [O.box [V.c (C.sl 3 kn kt xsh)], O.yo r q, O.mem 1 0 [[C.sl 2 n0 t0 x0], [C.sl 2 n1 t1 x1], [C.sl 2 n2 t2 x2]], O.box [V.c (C.str ((x1.getD (Int.toNat 0) []).headD C.pnil).st), V.c (C.sl 5 (some true) true []), V.c (C.sl 5 (some true) true []), V.c (C.sl 5 (some true) true [])]])))))) (Tr.chk true (Tr.chk true (Tr.chk (decide (Int.toNat 0 < x1.length)) (Tr.chk (shOk [Sk.str, Sk.sl 5] (x1.getD (Int.toNat 0) [])) (Tr.br (Op.bytesLess ((x1.getD (Int.toNat 0) []).headD C.pnil).st p) (Tr.chk true (Tr.chk true (Tr.chk (decide (Int.toNat 0 < x1.length)) (Tr.chk (shOk [Sk.str, Sk.sl 5] (x1.getD (Int.toNat 0) [])) (Tr.leaf (R.st Ex.nrm [(0, V.yl 1), (3, V.ptr 2 0 0 0), (6, V.ptr 3 0 0 0), (24, V.agg [V.c (C.sl 2 n0 t0 x0), V.c (C.sl 2 n1 t1 x1), V.c (C.sl 2 n2 t2 x2)]), (25, V.c (C.int IntKind.i64 2))] [O.box [V.c (C.sl 3 kn kt xsh)], O.yo r q, O.mem 1 0 [[C.sl 2 n0 t0 x0], [C.sl 2 n1 t1 x1], [C.sl 2 n2 t2 x2]], O.box [V.c (C.str ((x1.getD (Int.toNat 0) []).headD C.pnil).st), V.c (C.sl 5 (some true) true []), V.c (C.sl 5 (some true) true []), V.c (C.sl 5 (some true) true [])]])))))) (Tr.leaf (R.st Ex.nrm [(0, V.yl 1), (3, V.ptr 2 0 0 0), (6, V.ptr 3 0 0 0), (24, V.agg [V.c (C.sl 2 n0 t0 x0), V.c (C.sl 2 n1 t1 x1), V.c (C.sl 2 n2 t2 x2)]), (25, V.c (C.int IntKind.i64 2))] [O.box [V.c (C.sl 3 kn kt xsh)], O.yo r q, O.mem 1 0 [[C.sl 2 n0 t0 x0], [C.sl 2 n1 t1 x1], [C.sl 2 n2 t2 x2]], O.box [V.c (C.str p), V.c (C.sl 5 (some true) true []), V.c (C.sl 5 (some true) true []), V.c (C.sl 5 (some true) true [])]])))))))) (Tr.leaf (R.st Ex.nrm [(0, V.yl 1), (3, V.ptr 2 0 0 0), (6, V.ptr 3 0 0 0), (24, V.agg [V.c (C.sl 2 n0 t0 x0), V.c (C.sl 2 n1 t1 x1), V.c (C.sl 2 n2 t2 x2)]), (25, V.c (C.int IntKind.i64 2))] [O.box [V.c (C.sl 3 kn kt xsh)], O.yo r q, O.mem 1 0 [[C.sl 2 n0 t0 x0], [C.sl 2 n1 t1 x1], [C.sl 2 n2 t2 x2]], O.box [V.c (C.str p), V.c (C.sl 5 (some true) true []), V.c (C.sl 5 (some true) true []), V.c (C.sl 5 (some true) true [])]]))) (Tr.leaf (R.x (x137A1x0 kn kt xsh r q n0 t0 x0 n1 t1 x1 n2 t2 x2 p ([[C.sl 2 n0 t0 x0], [C.sl 2 n1 t1 x1], [C.sl 2 n2 t2 x2]]))))) := by kernel_rfl
abbrev x137A2x0 (kn : OBo) (kt : Bool) (xsh : LLC) (r : List (List V)) (q : Bool) (n0 : OBo) (t0 : Bool) (x0 : LLC) (n1 : OBo) (t1 : Bool) (x1 : LLC) (n2 : OBo) (t2 : Bool) (x2 : LLC) (p : Bys) (ys2 : LLC) : Ex × Fr × Hp := (Ex.exit 4, [(0, V.yl 1), (3, V.ptr 2 0 0 0), (6, V.ptr 3 0 0 0), (24, V.agg [V.c (C.sl 2 n0 t0 x0), V.c (C.sl 2 n1 t1 x1), V.c (C.sl 2 n2 t2 x2)]), (25, V.c (C.int IntKind.i64 2)), (26, V.c (C.bool false))], [O.box [V.c (C.sl 3 kn kt xsh)], O.yo r q, O.mem 1 0 ys2, O.box [V.c (C.str p), V.c (C.sl 5 (some true) true []), V.c (C.sl 5 (some true) true []), V.c (C.sl 5 (some true) true [])]])
theorem t137A2 (kn : OBo) (kt : Bool) (xsh : LLC) (r : List (List V)) (q : Bool) (n0 : OBo) (t0 : Bool) (x0 : LLC) (n1 : OBo) (t1 : Bool) (x1 : LLC) (n2 : OBo) (t2 : Bool) (x2 : LLC) (p : Bys) : p143.lts bA137 (sA137 kn kt xsh r q n0 t0 x0 n1 t1 x1 n2 t2 x2 p 2) = (Tr.br true (Tr.br (decide (0 < (↑x2.length : Int))) (Tr.br (p == []) (Tr.chk true (Tr.chk true (Tr.chk (decide (Int.toNat 0 < x2.length)) (Tr.chk (shOk [Sk.str, Sk.sl 5] (x2.getD (Int.toNat 0) [])) (Tr.leaf (R.st Ex.nrm [(0, V.yl 1), (3, V.ptr 2 0 0 0), (6, V.ptr 3 0 0 0), (24, V.agg [V.c (C.sl 2 n0 t0 x0), V.c (C.sl 2 n1 t1 x1), V.c (C.sl 2 n2 t2 x2)]), (25, V.c (C.int IntKind.i64 3))] [O.box [V.c (C.sl 3 kn kt xsh)], O.yo r q, O.mem 1 0 [[C.sl 2 n0 t0 x0], [C.sl 2 n1 t1 x1], [C.sl 2 n2 t2 x2]], O.box [V.c (C.str ((x2.getD (Int.toNat 0) []).headD C.pnil).st), V.c (C.sl 5 (some true) true []), V.c (C.sl 5 (some true) true []), V.c (C.sl 5 (some true) true [])]])))))) (Tr.chk true (Tr.chk true (Tr.chk (decide (Int.toNat 0 < x2.length)) (Tr.chk (shOk [Sk.str, Sk.sl 5] (x2.getD (Int.toNat 0) [])) (Tr.br (Op.bytesLess ((x2.getD (Int.toNat 0) []).headD C.pnil).st p) (Tr.chk true (Tr.chk true (Tr.chk (decide (Int.toNat 0 < x2.length)) (Tr.chk (shOk [Sk.str, Sk.sl 5] (x2.getD (Int.toNat 0) [])) (Tr.leaf (R.st Ex.nrm [(0, V.yl 1), (3, V.ptr 2 0 0 0), (6, V.ptr 3 0 0 0), (24, V.agg [V.c (C.sl 2 n0 t0 x0), V.c (C.sl 2 n1 t1 x1), V.c (C.sl 2 n2 t2 x2)]), (25, V.c (C.int IntKind.i64 3))] [O.box [V.c (C.sl 3 kn kt xsh)], O.yo r q, O.mem 1 0 [[C.sl 2 n0 t0 x0], [C.sl 2 n1 t1 x1], [C.sl 2 n2 t2 x2]], O.box [V.c (C.str ((x2.getD (Int.toNat 0) []).headD C.pnil).st), V.c (C.sl 5 (some true) true []), V.c (C.sl 5 (some true) true []), V.c (C.sl 5 (some true) true [])]])))))) (Tr.leaf (R.st Ex.nrm [(0, V.yl 1), (3, V.ptr 2 0 0 0), (6, V.ptr 3 0 0 0), (24, V.agg [V.c (C.sl 2 n0 t0 x0), V.c (C.sl 2 n1 t1 x1), V.c (C.sl 2 n2 t2 x2)]), (25, V.c (C.int IntKind.i64 3))] [O.box [V.c (C.sl 3 kn kt xsh)], O.yo r q, O.mem 1 0 [[C.sl 2 n0 t0 x0], [C.sl 2 n1 t1 x1], [C.sl 2 n2 t2 x2]], O.box [V.c (C.str p), V.c (C.sl 5 (some true) true []), V.c (C.sl 5 (some true) true []), V.c (C.sl 5 (some true) true [])]])))))))) (Tr.leaf (R.st Ex.nrm [(0, V.yl 1), (3, V.ptr 2 0 0 0), (6, V.ptr 3 0 0 0), (24, V.agg [V.c (C.sl 2 n0 t0 x0), V.c (C.sl 2 n1 t1 x1), V.c (C.sl 2 n2 t2 x2)]), (25, V.c (C.int IntKind.i64 3))] [O.box [V.c (C.sl 3 kn kt xsh)], O.yo r q, O.mem 1 0 [[C.sl 2 n0 t0 x0], [C.sl 2 n1 t1 x1], [C.sl 2 n2 t2 x2]], O.box [V.c (C.str p), V.c (C.sl 5 (some true) true []), V.c (C.sl 5 (some true) true []), V.c (C.sl 5 (some true) true [])]]))) (Tr.leaf (R.x (x137A2x0 kn kt xsh r q n0 t0 x0 n1 t1 x1 n2 t2 x2 p ([[C.sl 2 n0 t0 x0], [C.sl 2 n1 t1 x1], [C.sl 2 n2 t2 x2]]))))) := by kernel_rfl
abbrev x137A3x0 (kn : OBo) (kt : Bool) (xsh : LLC) (r : List (List V)) (q : Bool) (n0 : OBo) (t0 : Bool) (x0 : LLC) (n1 : OBo) (t1 : Bool) (x1 : LLC) (n2 : OBo) (t2 : Bool) (x2 : LLC) (p : Bys) (ys2 : LLC) : Ex × Fr × Hp := (Ex.exit 4, [(0, V.yl 1), (3, V.ptr 2 0 0 0), (6, V.ptr 3 0 0 0), (24, V.agg [V.c (C.sl 2 n0 t0 x0), V.c (C.sl 2 n1 t1 x1), V.c (C.sl 2 n2 t2 x2)]), (25, V.c (C.int IntKind.i64 3)), (26, V.c (C.bool false))], [O.box [V.c (C.sl 3 kn kt xsh)], O.yo r q, O.mem 1 0 ys2, O.box [V.c (C.str p), V.c (C.sl 5 (some true) true []), V.c (C.sl 5 (some true) true []), V.c (C.sl 5 (some true) true [])]])
theorem t137A3 (kn : OBo) (kt : Bool) (xsh : LLC) (r : List (List V)) (q : Bool) (n0 : OBo) (t0 : Bool) (x0 : LLC) (n1 : OBo) (t1 : Bool) (x1 : LLC) (n2 : OBo) (t2 : Bool) (x2 : LLC) (p : Bys) : p143.lts bA137 (sA137 kn kt xsh r q n0 t0 x0 n1 t1 x1 n2 t2 x2 p 3) = (Tr.br false Tr.fail (Tr.leaf (R.x (x137A3x0 kn kt xsh r q n0 t0 x0 n1 t1 x1 n2 t2 x2 p ([[C.sl 2 n0 t0 x0], [C.sl 2 n1 t1 x1], [C.sl 2 n2 t2 x2]]))))) := by kernel_rfl
theorem t137v (kn : OBo) (kt : Bool) (xsh : LLC) (r : List (List V)) (q : Bool) (n0 : OBo) (t0 : Bool) (x0 : LLC) (n1 : OBo) (t1 : Bool) (x1 : LLC) (n2 : OBo) (t2 : Bool) (x2 : LLC) (p : Bys) : p143.lkx bU137 0 (xA137 kn kt xsh r q n0 t0 x0 n1 t1 x1 n2 t2 x2 p) = Tr.br (p == []) (Tr.leaf (R.x (xE137 kn kt xsh r q n0 t0 x0 n1 t1 x1 n2 t2 x2 p))) (Tr.ls 1 (sB137 kn kt xsh r q n0 t0 x0 n1 t1 x1 n2 t2 x2 n0 t0 x0 n1 t1 x1 n2 t2 x2 p (some true) true [] (some true) true [] (some true) true [] 0)) := by kernel_rfl
abbrev x137B0x0 (kn : OBo) (kt : Bool) (xsh : LLC) (r : List (List V)) (q : Bool) (n0 : OBo) (t0 : Bool) (x0 : LLC) (n1 : OBo) (t1 : Bool) (x1 : LLC) (n2 : OBo) (t2 : Bool) (x2 : LLC) (p : Bys) (c0 : OBo) (d0 : Bool) (z0 : LLC) (c1 : OBo) (d1 : Bool) (z1 : LLC) (c2 : OBo) (d2 : Bool) (z2 : LLC) (ys2 : LLC) : Ex × Fr × Hp := (Ex.exit 6, [(0, V.yl 1), (3, V.ptr 2 0 0 0), (6, V.ptr 3 0 0 0), (54, V.agg [V.c (C.sl 2 n0 t0 x0), V.c (C.sl 2 n1 t1 x1), V.c (C.sl 2 n2 t2 x2)]), (55, V.c (C.int IntKind.i64 0)), (56, V.c (C.bool false))], [O.box [V.c (C.sl 3 kn kt xsh)], O.yo r q, O.mem 1 0 ys2, O.box [V.c (C.str p), V.c (C.sl 5 c0 d0 z0), V.c (C.sl 5 c1 d1 z1), V.c (C.sl 5 c2 d2 z2)]])
theorem t137B0 (kn : OBo) (kt : Bool) (xsh : LLC) (r : List (List V)) (q : Bool) (n0 : OBo) (t0 : Bool) (x0 : LLC) (n1 : OBo) (t1 : Bool) (x1 : LLC) (n2 : OBo) (t2 : Bool) (x2 : LLC) (a0 : OBo) (b0 : Bool) (y0 : LLC) (a1 : OBo) (b1 : Bool) (y1 : LLC) (a2 : OBo) (b2 : Bool) (y2 : LLC) (p : Bys) (c0 : OBo) (d0 : Bool) (z0 : LLC) (c1 : OBo) (d1 : Bool) (z1 : LLC) (c2 : OBo) (d2 : Bool) (z2 : LLC) : p143.lts bB137 (sB137 kn kt xsh r q n0 t0 x0 n1 t1 x1 n2 t2 x2 a0 b0 y0 a1 b1 y1 a2 b2 y2 p c0 d0 z0 c1 d1 z1 c2 d2 z2 0) = (Tr.br true (Tr.br (decide (0 < (↑x0.length : Int))) (Tr.chk true (Tr.chk true (Tr.chk (decide (Int.toNat 0 < x0.length)) (Tr.chk (shOk [Sk.str, Sk.sl 5] (x0.getD (Int.toNat 0) [])) (Tr.br (((x0.getD (Int.toNat 0) []).headD C.pnil).st == p) (Tr.chk true (Tr.chk true (Tr.chk (decide (Int.toNat 0 < x0.length)) (Tr.chk (shOk [Sk.str, Sk.sl 5] (x0.getD (Int.toNat 0) [])) (Tr.chk true (Tr.chk (decide (Int.toNat 1 <= x0.length)) (Tr.chk (decide (x0.length <= x0.length)) (Tr.chk true (Tr.chk true (Tr.chk true (Tr.chk true (Tr.chk true (Tr.chk true (Tr.chk true (Tr.chk true (Tr.chk true (Tr.chk true (Tr.chk true (Tr.chk true (Tr.leaf (R.st Ex.nrm [(0, V.yl 1), (3, V.ptr 2 0 0 0), (6, V.ptr 3 0 0 0), (54, V.agg [V.c (C.sl 2 n0 t0 x0), V.c (C.sl 2 n1 t1 x1), V.c (C.sl 2 n2 t2 x2)]), (55, V.c (C.int IntKind.i64 1))] [O.box [V.c (C.sl 3 kn kt xsh)], O.yo r q, O.mem 1 0 [[C.sl 2 n0 (cutTight none (t0 && decide (x0.length = x0.length))) (List.drop (Int.toNat 1) (List.take x0.length x0))], [C.sl 2 a1 b1 y1], [C.sl 2 a2 b2 y2]], O.box [V.c (C.str p), V.c (C.sl 5 none false ((x0.getD (Int.toNat 0) []).tail.headD C.pnil).xs), V.c (C.sl 5 c1 d1 z1), V.c (C.sl 5 c2 d2 z2)]]))))))))))))))))))))) (Tr.leaf (R.st Ex.nrm [(0, V.yl 1), (3, V.ptr 2 0 0 0), (6, V.ptr 3 0 0 0), (54, V.agg [V.c (C.sl 2 n0 t0 x0), V.c (C.sl 2 n1 t1 x1), V.c (C.sl 2 n2 t2 x2)]), (55, V.c (C.int IntKind.i64 1))] [O.box [V.c (C.sl 3 kn kt xsh)], O.yo r q, O.mem 1 0 [[C.sl 2 a0 b0 y0], [C.sl 2 a1 b1 y1], [C.sl 2 a2 b2 y2]], O.box [V.c (C.str p), V.c (C.sl 5 c0 d0 z0), V.c (C.sl 5 c1 d1 z1), V.c (C.sl 5 c2 d2 z2)]]))))))) (Tr.leaf (R.st Ex.nrm [(0, V.yl 1), (3, V.ptr 2 0 0 0), (6, V.ptr 3 0 0 0), (54, V.agg [V.c (C.sl 2 n0 t0 x0), V.c (C.sl 2 n1 t1 x1), V.c (C.sl 2 n2 t2 x2)]), (55, V.c (C.int IntKind.i64 1))] [O.box [V.c (C.sl 3 kn kt xsh)], O.yo r q, O.mem 1 0 [[C.sl 2 a0 b0 y0], [C.sl 2 a1 b1 y1], [C.sl 2 a2 b2 y2]], O.box [V.c (C.str p), V.c (C.sl 5 c0 d0 z0), V.c (C.sl 5 c1 d1 z1), V.c (C.sl 5 c2 d2 z2)]]))) (Tr.leaf (R.x (x137B0x0 kn kt xsh r q n0 t0 x0 n1 t1 x1 n2 t2 x2 p c0 d0 z0 c1 d1 z1 c2 d2 z2 ([[C.sl 2 a0 b0 y0], [C.sl 2 a1 b1 y1], [C.sl 2 a2 b2 y2]]))))) := by kernel_rfl
abbrev x137B1x0 (kn : OBo) (kt : Bool) (xsh : LLC) (r : List (List V)) (q : Bool) (n0 : OBo) (t0 : Bool) (x0 : LLC) (n1 : OBo) (t1 : Bool) (x1 : LLC) (n2 : OBo) (t2 : Bool) (x2 : LLC) (p : Bys) (c0 : OBo) (d0 : Bool) (z0 : LLC) (c1 : OBo) (d1 : Bool) (z1 : LLC) (c2 : OBo) (d2 : Bool) (z2 : LLC) (ys2 : LLC) : Ex × Fr × Hp := (Ex.exit 6, [(0, V.yl 1), (3, V.ptr 2 0 0 0), (6, V.ptr 3 0 0 0), (54, V.agg [V.c (C.sl 2 n0 t0 x0), V.c (C.sl 2 n1 t1 x1), V.c (C.sl 2 n2 t2 x2)]), (55, V.c (C.int IntKind.i64 1)), (56, V.c (C.bool false))], [O.box [V.c (C.sl 3 kn kt xsh)], O.yo r q, O.mem 1 0 ys2, O.box [V.c (C.str p), V.c (C.sl 5 c0 d0 z0), V.c (C.sl 5 c1 d1 z1), V.c (C.sl 5 c2 d2 z2)]])
theorem t137B1 (kn : OBo) (kt : Bool) (xsh : LLC) (r : List (List V)) (q : Bool) (n0 : OBo) (t0 : Bool) (x0 : LLC) (n1 : OBo) (t1 : Bool) (x1 : LLC) (n2 : OBo) (t2 : Bool) (x2 : LLC) (a0 : OBo) (b0 : Bool) (y0 : LLC) (a1 : OBo) (b1 : Bool) (y1 : LLC) (a2 : OBo) (b2 : Bool) (y2 : LLC) (p : Bys) (c0 : OBo) (d0 : Bool) (z0 : LLC) (c1 : OBo) (d1 : Bool) (z1 : LLC) (c2 : OBo) (d2 : Bool) (z2 : LLC) : p143.lts bB137 (sB137 kn kt xsh r q n0 t0 x0 n1 t1 x1 n2 t2 x2 a0 b0 y0 a1 b1 y1 a2 b2 y2 p c0 d0 z0 c1 d1 z1 c2 d2 z2 1) = (Tr.br true (Tr.br (decide (0 < (↑x1.length : Int))) (Tr.chk true (Tr.chk true (Tr.chk (decide (Int.toNat 0 < x1.length)) (Tr.chk (shOk [Sk.str, Sk.sl 5] (x1.getD (Int.toNat 0) [])) (Tr.br (((x1.getD (Int.toNat 0) []).headD C.pnil).st == p) (Tr.chk true (Tr.chk true (Tr.chk (decide (Int.toNat 0 < x1.length)) (Tr.chk (shOk [Sk.str, Sk.sl 5] (x1.getD (Int.toNat 0) [])) (Tr.chk true (Tr.chk (decide (Int.toNat 1 <= x1.length)) (Tr.chk (decide (x1.length <= x1.length)) (Tr.chk true (Tr.chk true (Tr.chk true (Tr.chk true (Tr.chk true (Tr.chk true (Tr.chk true (Tr.chk true (Tr.chk true (Tr.chk true (Tr.chk true (Tr.chk true (Tr.leaf (R.st Ex.nrm [(0, V.yl 1), (3, V.ptr 2 0 0 0), (6, V.ptr 3 0 0 0), (54, V.agg [V.c (C.sl 2 n0 t0 x0), V.c (C.sl 2 n1 t1 x1), V.c (C.sl 2 n2 t2 x2)]), (55, V.c (C.int IntKind.i64 2))] [O.box [V.c (C.sl 3 kn kt xsh)], O.yo r q, O.mem 1 0 [[C.sl 2 a0 b0 y0], [C.sl 2 n1 (cutTight none (t1 && decide (x1.length = x1.length))) (List.drop (Int.toNat 1) (List.take x1.length x1))], [C.sl 2 a2 b2 y2]], O.box [V.c (C.str p), V.c (C.sl 5 c0 d0 z0), V.c (C.sl 5 none false ((x1.getD (Int.toNat 0) []).tail.headD C.pnil).xs), V.c (C.sl 5 c2 d2 z2)]]))))))))))))))))))))) (Tr.leaf (R.st Ex.nrm [(0, V.yl 1), (3, V.ptr 2 0 0 0), (6, V.ptr 3 0 0 0), (54, V.agg [V.c (C.sl 2 n0 t0 x0), V.c (C.sl 2 n1 t1 x1), V.c (C.sl 2 n2 t2 x2)]), (55, V.c (C.int IntKind.i64 2))] [O.box [V.c (C.sl 3 kn kt xsh)], O.yo r q, O.mem 1 0 [[C.sl 2 a0 b0 y0], [C.sl 2 a1 b1 y1], [C.sl 2 a2 b2 y2]], O.box [V.c (C.str p), V.c (C.sl 5 c0 d0 z0), V.c (C.sl 5 c1 d1 z1), V.c (C.sl 5 c2 d2 z2)]]))))))) (Tr.leaf (R.st Ex.nrm [(0, V.yl 1), (3, V.ptr 2 0 0 0), (6, V.ptr 3 0 0 0), (54, V.agg [V.c (C.sl 2 n0 t0 x0), V.c (C.sl 2 n1 t1 x1), V.c (C.sl 2 n2 t2 x2)]), (55, V.c (C.int IntKind.i64 2))] [O.box [V.c (C.sl 3 kn kt xsh)], O.yo r q, O.mem 1 0 [[C.sl 2 a0 b0 y0], [C.sl 2 a1 b1 y1], [C.sl 2 a2 b2 y2]], O.box [V.c (C.str p), V.c (C.sl 5 c0 d0 z0), V.c (C.sl 5 c1 d1 z1), V.c (C.sl 5 c2 d2 z2)]]))) (Tr.leaf (R.x (x137B1x0 kn kt xsh r q n0 t0 x0 n1 t1 x1 n2 t2 x2 p c0 d0 z0 c1 d1 z1 c2 d2 z2 ([[C.sl 2 a0 b0 y0], [C.sl 2 a1 b1 y1], [C.sl 2 a2 b2 y2]]))))) := by kernel_rfl
abbrev x137B2x0 (kn : OBo) (kt : Bool) (xsh : LLC) (r : List (List V)) (q : Bool) (n0 : OBo) (t0 : Bool) (x0 : LLC) (n1 : OBo) (t1 : Bool) (x1 : LLC) (n2 : OBo) (t2 : Bool) (x2 : LLC) (p : Bys) (c0 : OBo) (d0 : Bool) (z0 : LLC) (c1 : OBo) (d1 : Bool) (z1 : LLC) (c2 : OBo) (d2 : Bool) (z2 : LLC) (ys2 : LLC) : Ex × Fr × Hp := (Ex.exit 6, [(0, V.yl 1), (3, V.ptr 2 0 0 0), (6, V.ptr 3 0 0 0), (54, V.agg [V.c (C.sl 2 n0 t0 x0), V.c (C.sl 2 n1 t1 x1), V.c (C.sl 2 n2 t2 x2)]), (55, V.c (C.int IntKind.i64 2)), (56, V.c (C.bool false))], [O.box [V.c (C.sl 3 kn kt xsh)], O.yo r q, O.mem 1 0 ys2, O.box [V.c (C.str p), V.c (C.sl 5 c0 d0 z0), V.c (C.sl 5 c1 d1 z1), V.c (C.sl 5 c2 d2 z2)]])
theorem t137B2 (kn : OBo) (kt : Bool) (xsh : LLC) (r : List (List V)) (q : Bool) (n0 : OBo) (t0 : Bool) (x0 : LLC) (n1 : OBo) (t1 : Bool) (x1 : LLC) (n2 : OBo) (t2 : Bool) (x2 : LLC) (a0 : OBo) (b0 : Bool) (y0 : LLC) (a1 : OBo) (b1 : Bool) (y1 : LLC) (a2 : OBo) (b2 : Bool) (y2 : LLC) (p : Bys) (c0 : OBo) (d0 : Bool) (z0 : LLC) (c1 : OBo) (d1 : Bool) (z1 : LLC) (c2 : OBo) (d2 : Bool) (z2 : LLC) : p143.lts bB137 (sB137 kn kt xsh r q n0 t0 x0 n1 t1 x1 n2 t2 x2 a0 b0 y0 a1 b1 y1 a2 b2 y2 p c0 d0 z0 c1 d1 z1 c2 d2 z2 2) = (Tr.br true (Tr.br (decide (0 < (↑x2.length : Int))) (Tr.chk true (Tr.chk true (Tr.chk (decide (Int.toNat 0 < x2.length)) (Tr.chk (shOk [Sk.str, Sk.sl 5] (x2.getD (Int.toNat 0) [])) (Tr.br (((x2.getD (Int.toNat 0) []).headD C.pnil).st == p) (Tr.chk true (Tr.chk true (Tr.chk (decide (Int.toNat 0 < x2.length)) (Tr.chk (shOk [Sk.str, Sk.sl 5] (x2.getD (Int.toNat 0) [])) (Tr.chk true (Tr.chk (decide (Int.toNat 1 <= x2.length)) (Tr.chk (decide (x2.length <= x2.length)) (Tr.chk true (Tr.chk true (Tr.chk true (Tr.chk true (Tr.chk true (Tr.chk true (Tr.chk true (Tr.chk true (Tr.chk true (Tr.chk true (Tr.chk true (Tr.chk true (Tr.leaf (R.st Ex.nrm [(0, V.yl 1), (3, V.ptr 2 0 0 0), (6, V.ptr 3 0 0 0), (54, V.agg [V.c (C.sl 2 n0 t0 x0), V.c (C.sl 2 n1 t1 x1), V.c (C.sl 2 n2 t2 x2)]), (55, V.c (C.int IntKind.i64 3))] [O.box [V.c (C.sl 3 kn kt xsh)], O.yo r q, O.mem 1 0 [[C.sl 2 a0 b0 y0], [C.sl 2 a1 b1 y1], [C.sl 2 n2 (cutTight none (t2 && decide (x2.length = x2.length))) (List.drop (Int.toNat 1) (List.take x2.length x2))]], O.box [V.c (C.str p), V.c (C.sl 5 c0 d0 z0), V.c (C.sl 5 c1 d1 z1), V.c (C.sl 5 none false ((x2.getD (Int.toNat 0) []).tail.headD C.pnil).xs)]]))))))))))))))))))))) (Tr.leaf (R.st Ex.nrm [(0, V.yl 1), (3, V.ptr 2 0 0 0), (6, V.ptr 3 0 0 0), (54, V.agg [V.c (C.sl 2 n0 t0 x0), V.c (C.sl 2 n1 t1 x1), V.c (C.sl 2 n2 t2 x2)]), (55, V.c (C.int IntKind.i64 3))] [O.box [V.c (C.sl 3 kn kt xsh)], O.yo r q, O.mem 1 0 [[C.sl 2 a0 b0 y0], [C.sl 2 a1 b1 y1], [C.sl 2 a2 b2 y2]], O.box [V.c (C.str p), V.c (C.sl 5 c0 d0 z0), V.c (C.sl 5 c1 d1 z1), V.c (C.sl 5 c2 d2 z2)]]))))))) (Tr.leaf (R.st Ex.nrm [(0, V.yl 1), (3, V.ptr 2 0 0 0), (6, V.ptr 3 0 0 0), (54, V.agg [V.c (C.sl 2 n0 t0 x0), V.c (C.sl 2 n1 t1 x1), V.c (C.sl 2 n2 t2 x2)]), (55, V.c (C.int IntKind.i64 3))] [O.box [V.c (C.sl 3 kn kt xsh)], O.yo r q, O.mem 1 0 [[C.sl 2 a0 b0 y0], [C.sl 2 a1 b1 y1], [C.sl 2 a2 b2 y2]], O.box [V.c (C.str p), V.c (C.sl 5 c0 d0 z0), V.c (C.sl 5 c1 d1 z1), V.c (C.sl 5 c2 d2 z2)]]))) (Tr.leaf (R.x (x137B2x0 kn kt xsh r q n0 t0 x0 n1 t1 x1 n2 t2 x2 p c0 d0 z0 c1 d1 z1 c2 d2 z2 ([[C.sl 2 a0 b0 y0], [C.sl 2 a1 b1 y1], [C.sl 2 a2 b2 y2]]))))) := by kernel_rfl
abbrev x137B3x0 (kn : OBo) (kt : Bool) (xsh : LLC) (r : List (List V)) (q : Bool) (n0 : OBo) (t0 : Bool) (x0 : LLC) (n1 : OBo) (t1 : Bool) (x1 : LLC) (n2 : OBo) (t2 : Bool) (x2 : LLC) (p : Bys) (c0 : OBo) (d0 : Bool) (z0 : LLC) (c1 : OBo) (d1 : Bool) (z1 : LLC) (c2 : OBo) (d2 : Bool) (z2 : LLC) (ys2 : LLC) : Ex × Fr × Hp := (Ex.exit 6, [(0, V.yl 1), (3, V.ptr 2 0 0 0), (6, V.ptr 3 0 0 0), (54, V.agg [V.c (C.sl 2 n0 t0 x0), V.c (C.sl 2 n1 t1 x1), V.c (C.sl 2 n2 t2 x2)]), (55, V.c (C.int IntKind.i64 3)), (56, V.c (C.bool false))], [O.box [V.c (C.sl 3 kn kt xsh)], O.yo r q, O.mem 1 0 ys2, O.box [V.c (C.str p), V.c (C.sl 5 c0 d0 z0), V.c (C.sl 5 c1 d1 z1), V.c (C.sl 5 c2 d2 z2)]])
theorem t137B3 (kn : OBo) (kt : Bool) (xsh : LLC) (r : List (List V)) (q : Bool) (n0 : OBo) (t0 : Bool) (x0 : LLC) (n1 : OBo) (t1 : Bool) (x1 : LLC) (n2 : OBo) (t2 : Bool) (x2 : LLC) (a0 : OBo) (b0 : Bool) (y0 : LLC) (a1 : OBo) (b1 : Bool) (y1 : LLC) (a2 : OBo) (b2 : Bool) (y2 : LLC) (p : Bys) (c0 : OBo) (d0 : Bool) (z0 : LLC) (c1 : OBo) (d1 : Bool) (z1 : LLC) (c2 : OBo) (d2 : Bool) (z2 : LLC) : p143.lts bB137 (sB137 kn kt xsh r q n0 t0 x0 n1 t1 x1 n2 t2 x2 a0 b0 y0 a1 b1 y1 a2 b2 y2 p c0 d0 z0 c1 d1 z1 c2 d2 z2 3) = (Tr.br false Tr.fail (Tr.leaf (R.x (x137B3x0 kn kt xsh r q n0 t0 x0 n1 t1 x1 n2 t2 x2 p c0 d0 z0 c1 d1 z1 c2 d2 z2 ([[C.sl 2 a0 b0 y0], [C.sl 2 a1 b1 y1], [C.sl 2 a2 b2 y2]]))))) := by kernel_rfl
abbrev x137wx0 (kn : OBo) (kt : Bool) (xsh : LLC) (r : List (List V)) (q : Bool) (p : Bys) (c0 : OBo) (d0 : Bool) (z0 : LLC) (c1 : OBo) (d1 : Bool) (z1 : LLC) (c2 : OBo) (d2 : Bool) (z2 : LLC) (ys2 : LLC) : Ex × Fr × Hp := (Ex.ret, [(0, V.yl 1), (3, V.ptr 2 0 0 0), (86, V.c (C.bool true))], [O.box [V.c (C.sl 3 kn kt xsh)], O.yo r.tail q, O.mem 1 0 ys2, O.box [V.c (C.str p), V.c (C.sl 5 c0 d0 z0), V.c (C.sl 5 c1 d1 z1), V.c (C.sl 5 c2 d2 z2)]])
theorem t137w (kn : OBo) (kt : Bool) (xsh : LLC) (r : List (List V)) (q : Bool) (n0 : OBo) (t0 : Bool) (x0 : LLC) (n1 : OBo) (t1 : Bool) (x1 : LLC) (n2 : OBo) (t2 : Bool) (x2 : LLC) (a0 : OBo) (b0 : Bool) (y0 : LLC) (a1 : OBo) (b1 : Bool) (y1 : LLC) (a2 : OBo) (b2 : Bool) (y2 : LLC) (p : Bys) (c0 : OBo) (d0 : Bool) (z0 : LLC) (c1 : OBo) (d1 : Bool) (z1 : LLC) (c2 : OBo) (d2 : Bool) (z2 : LLC) : p143.lkx bU137 1 (xB137 kn kt xsh r q n0 t0 x0 n1 t1 x1 n2 t2 x2 a0 b0 y0 a1 b1 y1 a2 b2 y2 p c0 d0 z0 c1 d1 z1 c2 d2 z2) = (Tr.chk (yoHd r [V.agg [V.c (C.str p), V.c (C.sl 5 c0 d0 z0), V.c (C.sl 5 c1 d1 z1), V.c (C.sl 5 c2 d2 z2)]]) (Tr.br (!yoAns r q) (Tr.leaf (R.x (x137wx0 kn kt xsh r q p c0 d0 z0 c1 d1 z1 c2 d2 z2 ([[C.sl 2 a0 b0 y0], [C.sl 2 a1 b1 y1], [C.sl 2 a2 b2 y2]])))) (Tr.leaf (R.st Ex.nrm [(0, V.yl 1), (3, V.ptr 2 0 0 0)] [O.box [V.c (C.sl 3 kn kt xsh)], O.yo r.tail q, O.mem 1 0 [[C.sl 2 a0 b0 y0], [C.sl 2 a1 b1 y1], [C.sl 2 a2 b2 y2]]])))) := by kernel_rfl
theorem k137e (kn : OBo) (kt : Bool) (xsh : LLC) (r : List (List V)) (q : Bool) (n0 : OBo) (t0 : Bool) (x0 : LLC) (n1 : OBo) (t1 : Bool) (x1 : LLC) (n2 : OBo) (t2 : Bool) (x2 : LLC) (p : Bys) : p143.fkx 1 (xE137 kn kt xsh r q n0 t0 x0 n1 t1 x1 n2 t2 x2 p) = Tr.leaf (R.out [] [O.box [V.c (C.sl 3 kn kt xsh)], O.yo r q]) := by kernel_rfl
end Go.Proofs.YtgaabjmbnomimaaGreatDoor
namespace Go.Proofs.YtgaabjmbnomimaaGreatDoor
open Go Go.Ev
def rcN : List Row -> Option Bool | [] => some true | _ :: _ => none
def rcT : List Row -> Bool | [] => true | _ :: _ => false
theorem rowsV_eq (rs : List Row) : rowsV rs = .c (.sl 5 (rcN rs) (rcT rs) (rows rs)) := by cases rs <;> rfl
abbrev pk {α : Type} (j k : Nat) (a b : α) : α := if j < k then a else b
section
variable (kn : OBo) (kt : Bool) (xsh : LLC) (r : List (List V)) (q : Bool) (n0 : OBo) (t0 : Bool) (x : List Ent) (n1 : OBo) (t1 : Bool) (y : List Ent) (n2 : OBo) (t2 : Bool) (z : List Ent)
theorem stepA0 (p : Bys) : p143.ld bA137 (p143.lts bA137 (sA137 kn kt xsh r q n0 t0 (ents x) n1 t1 (ents y) n2 t2 (ents z) p 0)) = some (R.s (sA137 kn kt xsh r q n0 t0 (ents x) n1 t1 (ents y) n2 t2 (ents z) (leastP p x) 1)) := by
 rw [t137A0]
 cases x with
 | nil => rfl
 | cons e l =>
   have h1 : (0 : Int) < ((ents (e :: l)).length : Nat) := by rw [ents_length, List.length_cons]; omega
   have h2 : Int.toNat 0 < (ents (e :: l)).length := by rw [ents_length, List.length_cons]; exact Nat.succ_pos _
   have h3 : (ents (e :: l)).getD (Int.toNat 0) [] = ee e := rfl
   cases p with
   | nil => simp only [ld_br, ld_chk', ld_leaf, h1, h2, h3, ee_ok, ee_p, decide_true, if_true, beq_self_eq_true]; rfl
   | cons b s =>
     have h4 : (b :: s == []) = false := rfl
     simp only [ld_br, ld_chk', ld_leaf, h1, h2, h3, h4, ee_ok, ee_p, decide_true, if_true, Bool.false_eq_true, if_false, leastP]
     cases Op.bytesLess e.1 (b :: s) <;> rfl
theorem stepA1 (p : Bys) : p143.ld bA137 (p143.lts bA137 (sA137 kn kt xsh r q n0 t0 (ents x) n1 t1 (ents y) n2 t2 (ents z) p 1)) = some (R.s (sA137 kn kt xsh r q n0 t0 (ents x) n1 t1 (ents y) n2 t2 (ents z) (leastP p y) 2)) := by
 rw [t137A1]
 cases y with
 | nil => rfl
 | cons e l =>
   have h1 : (0 : Int) < ((ents (e :: l)).length : Nat) := by rw [ents_length, List.length_cons]; omega
   have h2 : Int.toNat 0 < (ents (e :: l)).length := by rw [ents_length, List.length_cons]; exact Nat.succ_pos _
   have h3 : (ents (e :: l)).getD (Int.toNat 0) [] = ee e := rfl
   cases p with
   | nil => simp only [ld_br, ld_chk', ld_leaf, h1, h2, h3, ee_ok, ee_p, decide_true, if_true, beq_self_eq_true]; rfl
   | cons b s =>
     have h4 : (b :: s == []) = false := rfl
     simp only [ld_br, ld_chk', ld_leaf, h1, h2, h3, h4, ee_ok, ee_p, decide_true, if_true, Bool.false_eq_true, if_false, leastP]
     cases Op.bytesLess e.1 (b :: s) <;> rfl
theorem stepA2 (p : Bys) : p143.ld bA137 (p143.lts bA137 (sA137 kn kt xsh r q n0 t0 (ents x) n1 t1 (ents y) n2 t2 (ents z) p 2)) = some (R.s (sA137 kn kt xsh r q n0 t0 (ents x) n1 t1 (ents y) n2 t2 (ents z) (leastP p z) 3)) := by
 rw [t137A2]
 cases z with
 | nil => rfl
 | cons e l =>
   have h1 : (0 : Int) < ((ents (e :: l)).length : Nat) := by rw [ents_length, List.length_cons]; omega
   have h2 : Int.toNat 0 < (ents (e :: l)).length := by rw [ents_length, List.length_cons]; exact Nat.succ_pos _
   have h3 : (ents (e :: l)).getD (Int.toNat 0) [] = ee e := rfl
   cases p with
   | nil => simp only [ld_br, ld_chk', ld_leaf, h1, h2, h3, ee_ok, ee_p, decide_true, if_true, beq_self_eq_true]; rfl
   | cons b s =>
     have h4 : (b :: s == []) = false := rfl
     simp only [ld_br, ld_chk', ld_leaf, h1, h2, h3, h4, ee_ok, ee_p, decide_true, if_true, Bool.false_eq_true, if_false, leastP]
     cases Op.bytesLess e.1 (b :: s) <;> rfl
theorem hct137 : (ctOf [(144, s144)]).ok E := ctOf_cons s144_ok ctOf_nil
def least3 (x y z : List Ent) : List UInt8 := leastP (leastP (leastP [] x) y) z
theorem loopA : ∃ xx, xx = xA137 kn kt xsh r q n0 t0 (ents x) n1 t1 (ents y) n2 t2 (ents z) (least3 x y z) /\ p143.Loops bA137 (sA137 kn kt xsh r q n0 t0 (ents x) n1 t1 (ents y) n2 t2 (ents z) [] 0) xx := by
 refine list_post (p := p143) hct137 (b := bA137) 3 (fun k (p : Bys) => sA137 kn kt xsh r q n0 t0 (ents x) n1 t1 (ents y) n2 t2 (ents z) p k)
   (fun k p => p = match k with | 0 => [] | 1 => leastP [] x | 2 => leastP (leastP [] x) y | _ => least3 x y z) (fun xx => xx = xA137 kn kt xsh r q n0 t0 (ents x) n1 t1 (ents y) n2 t2 (ents z) (least3 x y z)) ?_ ?_ 0 (Nat.zero_le _) [] rfl
 · intro k p hk hp
   match k, hk, hp with
   | 0, _, hp => subst hp; exact .inl ⟨_, rfl, stepA0 kn kt xsh r q n0 t0 x n1 t1 y n2 t2 z []⟩
   | 1, _, hp => subst hp; exact .inl ⟨_, rfl, stepA1 kn kt xsh r q n0 t0 x n1 t1 y n2 t2 z _⟩
   | 2, _, hp => subst hp; exact .inl ⟨_, rfl, stepA2 kn kt xsh r q n0 t0 x n1 t1 y n2 t2 z _⟩
 · intro p hp
   subst hp
   refine ⟨_, ?_, rfl, ?_⟩
   · simp
   · show p143.ld bA137 (p143.lts bA137 (sA137 kn kt xsh r q n0 t0 (ents x) n1 t1 (ents y) n2 t2 (ents z) (least3 x y z) 3)) = _
     rw [t137A3]; rfl
abbrev sBk (p : Bys) (k : Nat) : Fr × Hp := sB137 kn kt xsh r q n0 t0 (ents x) n1 t1 (ents y) n2 t2 (ents z) n0 t0 (ents (pk 0 k (tailP p x) x)) n1 t1 (ents (pk 1 k (tailP p y) y)) n2 t2 (ents (pk 2 k (tailP p z) z))
 p (rcN (pk 0 k (headP p x) [])) (rcT (pk 0 k (headP p x) [])) (rows (pk 0 k (headP p x) [])) (rcN (pk 1 k (headP p y) [])) (rcT (pk 1 k (headP p y) [])) (rows (pk 1 k (headP p y) [])) (rcN (pk 2 k (headP p z) [])) (rcT (pk 2 k (headP p z) [])) (rows (pk 2 k (headP p z) [])) k
theorem rc_ne {l : List Row} (h : l ≠ []) : rcN l = none /\ rcT l = false := by cases l with | nil => exact absurd rfl h | cons a r => exact ⟨rfl, rfl⟩
theorem loopB (p : Bys) (hx : ∀ e ∈ x, e.2 ≠ []) (hy : ∀ e ∈ y, e.2 ≠ []) (hz : ∀ e ∈ z, e.2 ≠ []) : ∃ xx, xx = xB137 kn kt xsh r q n0 t0 (ents x) n1 t1 (ents y) n2 t2 (ents z) n0 t0 (ents (tailP p x)) n1 t1 (ents (tailP p y)) n2 t2 (ents (tailP p z))
   p (rcN (headP p x)) (rcT (headP p x)) (rows (headP p x)) (rcN (headP p y)) (rcT (headP p y)) (rows (headP p y)) (rcN (headP p z)) (rcT (headP p z)) (rows (headP p z)) /\ p143.Loops bB137 (sBk kn kt xsh r q n0 t0 x n1 t1 y n2 t2 z p 0) xx := by
 refine list_post (p := p143) hct137 (b := bB137) 3 (fun k (_ : Unit) => sBk kn kt xsh r q n0 t0 x n1 t1 y n2 t2 z p k) (fun _ _ => True) (fun xx => xx = _) ?_ ?_ 0 (Nat.zero_le _) () trivial
 · intro k _ hk _
   have hd : ∀ n : Nat, decide (n = n) = true := fun n => by simp
   have hle : ∀ n : Nat, decide (n <= n) = true := fun n => by simp
   match k, hk with
   | 0, _ =>
     refine .inl ⟨(), trivial, ?_⟩
     show p143.ld bB137 (p143.lts bB137 (sB137 kn kt xsh r q n0 t0 (ents x) n1 t1 (ents y) n2 t2 (ents z) n0 t0 (ents x) n1 t1 (ents y) n2 t2 (ents z) p (rcN []) (rcT []) (rows []) (rcN []) (rcT []) (rows []) (rcN []) (rcT []) (rows []) 0)) = _
     rw [t137B0]
     cases x with
     | nil => rfl
     | cons e l =>
       have h1 : (0 : Int) < ((ents (e :: l)).length : Nat) := by rw [ents_length, List.length_cons]; omega
       have h2 : Int.toNat 0 < (ents (e :: l)).length := by rw [ents_length, List.length_cons]; exact Nat.succ_pos _
       have h3 : (ents (e :: l)).getD (Int.toNat 0) [] = ee e := rfl
       have h5 : Int.toNat 1 <= (ents (e :: l)).length := h2
       obtain ⟨r1, r2⟩ := rc_ne (hx e (by simp))
       simp only [ld_br, ld_chk', ld_leaf, h1, h2, h3, h5, ee_ok, ee_p, ee_r, decide_true, if_true, hd, hle, List.take_length, cutTight, Bool.and_true]
       cases c : e.1 == p with
       | false => simp only [Bool.false_eq_true, if_false, sBk, pk, Nat.zero_add, Nat.reduceAdd, Nat.reduceLT, Nat.reduceLeDiff, Nat.reduceEqDiff, Nat.lt_irrefl, reduceIte, headP, tailP, c, cond_false]; rfl
       | true => simp only [if_true, sBk, pk, Nat.zero_add, Nat.reduceAdd, Nat.reduceLT, Nat.reduceLeDiff, Nat.reduceEqDiff, Nat.lt_irrefl, reduceIte, headP, tailP, c, cond_true, r1, r2]; rfl
   | 1, _ =>
     refine .inl ⟨(), trivial, ?_⟩
     show p143.ld bB137 (p143.lts bB137 (sB137 kn kt xsh r q n0 t0 (ents x) n1 t1 (ents y) n2 t2 (ents z) n0 t0 (ents (tailP p x)) n1 t1 (ents y) n2 t2 (ents z) p (rcN (headP p x)) (rcT (headP p x)) (rows (headP p x)) (rcN []) (rcT []) (rows []) (rcN []) (rcT []) (rows []) 1)) = _
     rw [t137B1]
     cases y with
     | nil => rfl
     | cons e l =>
       have h1 : (0 : Int) < ((ents (e :: l)).length : Nat) := by rw [ents_length, List.length_cons]; omega
       have h2 : Int.toNat 0 < (ents (e :: l)).length := by rw [ents_length, List.length_cons]; exact Nat.succ_pos _
       have h3 : (ents (e :: l)).getD (Int.toNat 0) [] = ee e := rfl
       have h5 : Int.toNat 1 <= (ents (e :: l)).length := h2
       obtain ⟨r1, r2⟩ := rc_ne (hy e (by simp))
       simp only [ld_br, ld_chk', ld_leaf, h1, h2, h3, h5, ee_ok, ee_p, ee_r, decide_true, if_true, hd, hle, List.take_length, cutTight, Bool.and_true]
       cases c : e.1 == p with
       | false => simp only [Bool.false_eq_true, if_false, sBk, pk, Nat.zero_add, Nat.reduceAdd, Nat.reduceLT, Nat.reduceLeDiff, Nat.reduceEqDiff, Nat.lt_irrefl, reduceIte, headP, tailP, c, cond_false]; rfl
       | true => simp only [if_true, sBk, pk, Nat.zero_add, Nat.reduceAdd, Nat.reduceLT, Nat.reduceLeDiff, Nat.reduceEqDiff, Nat.lt_irrefl, reduceIte, headP, tailP, c, cond_true, r1, r2]; rfl
   | 2, _ =>
     refine .inl ⟨(), trivial, ?_⟩
     show p143.ld bB137 (p143.lts bB137 (sB137 kn kt xsh r q n0 t0 (ents x) n1 t1 (ents y) n2 t2 (ents z) n0 t0 (ents (tailP p x)) n1 t1 (ents (tailP p y)) n2 t2 (ents z) p (rcN (headP p x)) (rcT (headP p x)) (rows (headP p x)) (rcN (headP p y)) (rcT (headP p y)) (rows (headP p y)) (rcN []) (rcT []) (rows []) 2)) = _
     rw [t137B2]
     cases z with
     | nil => rfl
     | cons e l =>
       have h1 : (0 : Int) < ((ents (e :: l)).length : Nat) := by rw [ents_length, List.length_cons]; omega
       have h2 : Int.toNat 0 < (ents (e :: l)).length := by rw [ents_length, List.length_cons]; exact Nat.succ_pos _
       have h3 : (ents (e :: l)).getD (Int.toNat 0) [] = ee e := rfl
       have h5 : Int.toNat 1 <= (ents (e :: l)).length := h2
       obtain ⟨r1, r2⟩ := rc_ne (hz e (by simp))
       simp only [ld_br, ld_chk', ld_leaf, h1, h2, h3, h5, ee_ok, ee_p, ee_r, decide_true, if_true, hd, hle, List.take_length, cutTight, Bool.and_true]
       cases c : e.1 == p with
       | false => simp only [Bool.false_eq_true, if_false, sBk, pk, Nat.zero_add, Nat.reduceAdd, Nat.reduceLT, Nat.reduceLeDiff, Nat.reduceEqDiff, Nat.lt_irrefl, reduceIte, headP, tailP, c, cond_false]; rfl
       | true => simp only [if_true, sBk, pk, Nat.zero_add, Nat.reduceAdd, Nat.reduceLT, Nat.reduceLeDiff, Nat.reduceEqDiff, Nat.lt_irrefl, reduceIte, headP, tailP, c, cond_true, r1, r2]; rfl
 · intro _ _
   refine ⟨_, ?_, rfl, ?_⟩
   · simp
   · show p143.ld bB137 (p143.lts bB137 (sB137 kn kt xsh r q n0 t0 (ents x) n1 t1 (ents y) n2 t2 (ents z) n0 t0 (ents (tailP p x)) n1 t1 (ents (tailP p y)) n2 t2 (ents (tailP p z)) p (rcN (headP p x)) (rcT (headP p x)) (rows (headP p x)) (rcN (headP p y)) (rcT (headP p y)) (rows (headP p y)) (rcN (headP p z)) (rcT (headP p z)) (rows (headP p z)) 3)) = _
     rw [t137B3]; rfl
end
end Go.Proofs.YtgaabjmbnomimaaGreatDoor
namespace Go.Proofs.YtgaabjmbnomimaaGreatDoor
open Go Go.Ev
theorem leastP_or (p : Bys) (x : List Ent) : leastP p x = p \/ ∃ e l, x = e :: l /\ leastP p x = e.1 := by
 cases x with
 | nil => exact .inl rfl
 | cons e l =>
   cases p with
   | nil => exact .inr ⟨e, l, rfl, rfl⟩
   | cons b q =>
     simp only [leastP]
     cases Op.bytesLess e.1 (b :: q) with
     | true => exact .inr ⟨e, l, rfl, rfl⟩
     | false => exact .inl rfl
theorem least3_or (x y z : List Ent) : least3 x y z = [] \/ ∃ e l, (x = e :: l \/ y = e :: l \/ z = e :: l) /\ least3 x y z = e.1 := by
 unfold least3
 rcases leastP_or (leastP (leastP [] x) y) z with h | ⟨e, l, h1, h2⟩
 · rw [h]
   rcases leastP_or (leastP [] x) y with h | ⟨e, l, h1, h2⟩
   · rw [h]
     rcases leastP_or [] x with h | ⟨e, l, h1, h2⟩
     · exact .inl h
     · exact .inr ⟨e, l, .inl h1, h2⟩
   · exact .inr ⟨e, l, .inr (.inl h1), h2⟩
 · exact .inr ⟨e, l, .inr (.inr h1), h2⟩
theorem tailP_lt {x : List Ent} {e : Ent} {l : List Ent} (h : x = e :: l) : (tailP e.1 x).length < x.length := by
 subst h; simp [tailP]
theorem tails_lt {x y z : List Ent} (h : least3 x y z ≠ []) : (tailP (least3 x y z) x).length + (tailP (least3 x y z) y).length + (tailP (least3 x y z) z).length < x.length + y.length + z.length := by
 have l1 := (tailP_sub (least3 x y z) x).length_le
 have l2 := (tailP_sub (least3 x y z) y).length_le
 have l3 := (tailP_sub (least3 x y z) z).length_le
 rcases least3_or x y z with k | ⟨e, l, k | k | k, hp⟩
 · exact absurd k h
 · have := tailP_lt k; rw [<- hp] at this; omega
 · have := tailP_lt k; rw [<- hp] at this; omega
 · have := tailP_lt k; rw [<- hp] at this; omega
structure PreU (es : List (List V)) (u : List (List V)) (b : Bool) (m : Nat) (i : List Ent × List Ent × List Ent × List (List V)) : Prop where
 rx : Rne i.1
 ry : Rne i.2.1
 rz : Rne i.2.2.1
 at_ : ∃ c f, i.1.length + i.2.1.length + i.2.2.1.length < f /\ es.drop c = (sidesF f i.1 i.2.1 i.2.2.1).map encS /\ c <= es.length /\ At u b m c i.2.2.2
theorem rne_tail {p : List UInt8} {x : List Ent} (h : Rne x) : Rne (tailP p x) := fun e he => h e ((tailP_sub p x).subset he)
theorem eqb_encS (p : Bys) (a b c : List Row) : eqbV [V.agg [V.c (C.str p), V.c (C.sl 5 (rcN a) (rcT a) (rows a)), V.c (C.sl 5 (rcN b) (rcT b) (rows b)), V.c (C.sl 5 (rcN c) (rcT c) (rows c))]] (encS ⟨p, a, b, c⟩) = true := by
 cases a <;> cases b <;> cases c <;> simp [encS, rowsV, rcN, rcT, rows, eqbV, V.eqb, eqb_refl]
theorem loopU {es u : List (List V)} {b : Bool} {m : Nat} (hu : u = es.take m) (hm : m <= es.length) (hb : b = false -> m = es.length) (kn : OBo) (kt : Bool) (xsh : LLC) (n0 : OBo) (t0 : Bool) (n1 : OBo) (t1 : Bool) (n2 : OBo) (t2 : Bool)
   (x y z : List Ent) (r : List (List V)) (hp : PreU es u b m (x, y, z, r)) : p143.fd (Tr.ls 1 (u137 kn kt xsh r b n0 t0 (ents x) n1 t1 (ents y) n2 t2 (ents z))) = some (.out [] [O.box [V.c (C.sl 3 kn kt xsh)], O.yo [] b]) := by
 refine fd_post hct137 (by kernel_rfl) rfl (loops_post (p := p143) hct137 (b := bU137) (ι := List Ent × List Ent × List Ent × List (List V)) (fun i => u137 kn kt xsh i.2.2.2 b n0 t0 (ents i.1) n1 t1 (ents i.2.1) n2 t2 (ents i.2.2.1)) (PreU es u b m) (fun i => i.1.length + i.2.1.length + i.2.2.1.length) _ ?_ (x, y, z, r) hp)
 rintro ⟨x, y, z, r⟩ ⟨rx, ry, rz, c, f, hf, hd, hc, hat⟩
 dsimp only at rx ry rz hf hd hat
 obtain ⟨f, rfl⟩ : ∃ k, f = k + 1 := ⟨f - 1, by omega⟩
 obtain ⟨_, rfl, hA⟩ := loopA kn kt xsh r b n0 t0 x n1 t1 y n2 t2 z
 by_cases hl : least3 x y z = []
 · rw [sidesF_end f hl, List.map_nil] at hd
   have hce : c = es.length := by
     have := congrArg List.length hd
     simp only [List.length_drop, List.length_nil] at this; omega
   obtain ⟨rfl, rfl⟩ := hat.end_ hu hm hce
   refine .inr ⟨xE137 kn kt xsh [] false n0 t0 (ents x) n1 t1 (ents y) n2 t2 (ents z) [], by simp, by rw [k137e, fd_leaf], ?_⟩
   dsimp only
   rw [t137u]
   refine ld_post hct137 (by kernel_rfl) rfl ⟨_, ?_, hA⟩
   rw [hl, t137v, ld_br, ld_leaf]; rfl
 · rw [sidesF_step f rfl hl, List.map_cons] at hd
   have hlt := tails_lt hl
   have hcl : c < es.length := by
     rcases Nat.lt_or_ge c es.length with h | h
     · exact h
     · rw [List.drop_of_length_le h] at hd; cases hd
   have hd2 := hd
   rw [List.drop_eq_getElem_cons hcl] at hd2
   simp only [List.cons.injEq] at hd2
   obtain ⟨_, hr1, _, hr3⟩ := hat.next hu hm hb hcl
   rw [hd2.1] at hr1
   obtain ⟨_, rfl, hB⟩ := loopB kn kt xsh r b n0 t0 x n1 t1 y n2 t2 z (least3 x y z) rx ry rz
   have hyo : yoHd r [V.agg [V.c (C.str (least3 x y z)), V.c (C.sl 5 (rcN (headP (least3 x y z) x)) (rcT (headP (least3 x y z) x)) (rows (headP (least3 x y z) x))), V.c (C.sl 5 (rcN (headP (least3 x y z) y)) (rcT (headP (least3 x y z) y)) (rows (headP (least3 x y z) y))), V.c (C.sl 5 (rcN (headP (least3 x y z) z)) (rcT (headP (least3 x y z) z)) (rows (headP (least3 x y z) z)))]] = true := by
     rw [hr1]; exact eqb_encS _ _ _ _
   have hne : (least3 x y z == []) = false := by
     cases h : least3 x y z with
     | nil => exact absurd h hl
     | cons a s => rfl
   have go : p143.ld bU137 (p143.lts bU137 (u137 kn kt xsh r b n0 t0 (ents x) n1 t1 (ents y) n2 t2 (ents z))) = (if (!yoAns r b) = true then some (R.x (x137wx0 kn kt xsh r b (least3 x y z) (rcN (headP (least3 x y z) x)) (rcT (headP (least3 x y z) x)) (rows (headP (least3 x y z) x)) (rcN (headP (least3 x y z) y)) (rcT (headP (least3 x y z) y)) (rows (headP (least3 x y z) y)) (rcN (headP (least3 x y z) z)) (rcT (headP (least3 x y z) z)) (rows (headP (least3 x y z) z)) ([[C.sl 2 n0 t0 (ents (tailP (least3 x y z) x))], [C.sl 2 n1 t1 (ents (tailP (least3 x y z) y))], [C.sl 2 n2 t2 (ents (tailP (least3 x y z) z))]])))
       else some (R.s (u137 kn kt xsh r.tail b n0 t0 (ents (tailP (least3 x y z) x)) n1 t1 (ents (tailP (least3 x y z) y)) n2 t2 (ents (tailP (least3 x y z) z))))) := by
     rw [t137u]
     refine ld_post hct137 (by kernel_rfl) (by split <;> rfl) ⟨_, ?_, hA⟩
     rw [t137v, ld_br, hne, if_neg (by simp)]
     refine ld_post hct137 (by kernel_rfl) (by split <;> rfl) ⟨_, ?_, hB⟩
     rw [t137w, ld_chk', if_pos hyo, ld_br]
     split <;> rfl
   rcases hr3 with ⟨h1, h2⟩ | ⟨h1, h2, h3⟩
   · refine .inl ⟨(tailP (least3 x y z) x, tailP (least3 x y z) y, tailP (least3 x y z) z, r.tail), ⟨rne_tail rx, rne_tail ry, rne_tail rz, c + 1, f, by dsimp only; omega, hd2.2, hcl, h2⟩, hlt, ?_⟩
     dsimp only
     rw [go, h1]; rfl
   · refine .inr ⟨x137wx0 kn kt xsh r b (least3 x y z) (rcN (headP (least3 x y z) x)) (rcT (headP (least3 x y z) x)) (rows (headP (least3 x y z) x)) (rcN (headP (least3 x y z) y)) (rcT (headP (least3 x y z) y)) (rows (headP (least3 x y z) y)) (rcN (headP (least3 x y z) z)) (rcT (headP (least3 x y z) z)) (rows (headP (least3 x y z) z)) ([[C.sl 2 n0 t0 (ents (tailP (least3 x y z) x))], [C.sl 2 n1 t1 (ents (tailP (least3 x y z) y))], [C.sl 2 n2 t2 (ents (tailP (least3 x y z) z))]]), by simp, ?_, by dsimp only; rw [go, h1]; rfl⟩
     have : p143.fkx 1 (x137wx0 kn kt xsh r b (least3 x y z) (rcN (headP (least3 x y z) x)) (rcT (headP (least3 x y z) x)) (rows (headP (least3 x y z) x)) (rcN (headP (least3 x y z) y)) (rcT (headP (least3 x y z) y)) (rows (headP (least3 x y z) y)) (rcN (headP (least3 x y z) z)) (rcT (headP (least3 x y z) z)) (rows (headP (least3 x y z) z)) ([[C.sl 2 n0 t0 (ents (tailP (least3 x y z) x))], [C.sl 2 n1 t1 (ents (tailP (least3 x y z) y))], [C.sl 2 n2 t2 (ents (tailP (least3 x y z) z))]])) =
         Tr.leaf (R.out [] [O.box [V.c (C.sl 3 kn kt xsh)], O.yo r.tail b]) := by kernel_rfl
     rw [this, fd_leaf, h2]
def slE (t : Nd) : List C := [C.sl 2 none false (ents (entP t))]
def sl0 : List C := [C.sl 2 (some true) true []]
def ysK (ts : List Nd) (k : Nat) : List (List C) := (ts.take k).map slE ++ List.replicate (3 - k) sl0
theorem ysK_set (ts : List Nd) (k : Nat) (hk : k < ts.length) (h3 : k < 3) : (ysK ts k).set k (slE ts[k]) = ysK ts (k + 1) := by
 unfold ysK
 rw [List.take_succ_eq_append_getElem hk]
 obtain ⟨j, hj⟩ : ∃ j, 3 - k = j + 1 := ⟨2 - k, by omega⟩
 have hj2 : 3 - (k + 1) = j := by omega
 rw [hj, hj2, List.replicate_succ, List.map_append, List.append_assoc]
 rw [List.set_append_right _ _ (by simp; omega)]
 have : k - ((ts.take k).map slE).length = 0 := by simp; omega
 rw [this]; rfl
theorem ysK_len (ts : List Nd) (k : Nat) (hk : k <= ts.length) (h3 : k <= 3) : (ysK ts k).length = 3 := by
 unfold ysK; simp; omega
theorem loop137 (kn : OBo) (kt : Bool) (ts : List Nd) (r : List (List V)) (q : Bool) (h3 : ts.length <= 3) (hn : ∀ t ∈ ts, (entL t.kids).length < 1000000000) (R0 : R)
   (h : p143.fd (Tr.ls 1 (s143_1 kn kt r q (encL ts) (ysK ts ts.length))) = some R0) :
   p143.fd (Tr.ls 0 (s143_0 kn kt r q (encL ts) ts.length 0 (encL ts) (ysK ts 0))) = some R0 := by
 refine fd_post hct137 (by kernel_rfl) rfl (list_post (p := p143) hct137 (b := b143_0) ts.length (fun k (_ : Unit) => s143_0 kn kt r q (encL ts) ts.length k (encL ts) (ysK ts k)) (fun _ _ => True) _ ?_ ?_ 0 (Nat.zero_le _) () trivial)
 · intro k _ hk _
   refine .inl ⟨(), trivial, ?_⟩
   have hn' := hn _ (List.getElem_mem hk)
   have hyl := ysK_len ts k (by omega) (by omega)
   have hkl : (k : Int) < 3 := by omega
   have hset := ysK_set ts k hk (by omega)
   have hyk : ((ysK ts k).getD k []).length = 1 := by
     have e : (ysK ts k).getD k [] = sl0 := by
       unfold ysK
       rw [List.getD_eq_getElem?_getD, List.getElem?_append_right (by simp; omega)]
       have : k - ((ts.take k).map slE).length = 0 := by simp; omega
       rw [this]
       obtain ⟨j, hj⟩ : ∃ j, 3 - k = j + 1 := ⟨2 - k, by omega⟩
       rw [hj]; rfl
     rw [e]; rfl
   rw [t143_0]
   have h3k : k < 3 := by omega
   simp only [nd_ok, nd_lab, nd_rows, nd_kids, encL_length, isL_enc, decL_enc, wrap_hd, hd_pos, ld_br, ld_chk', ld_leaf, fd_br, fd_chk', fd_leaf, decide_true, decide_eq_true_eq, if_true, Int.toNat_natCast, Int.natCast_nonneg, Int.ofNat_lt, Int.ofNat_le, Bool.false_eq_true, if_false, bne_iff_ne, beq_iff_eq, ne_eq, not_true_eq_false, not_false_eq_true, Bool.not_eq_true', decide_eq_false_iff_not, reduceCtorEq, rows_length, er_ok, er_ok', dr_er, isRows_rows, toRows_rows, rows_take, rows_drop, rows_append, ints_length, isInts_ints, toInts_ints, ei_i, ei_ok, mk_headD, ints_take, ints_drop, ints_append, ints_snoc, ints_snoc', List.take_length, Nat.zero_add, Nat.le_refl, er_a, er_b, er_k, er_n, er_s, er_v, hk, encL_getD hk, hn', hkl, h3k, hyl, hyk]
   rw [<- hset, wrap_succ (by omega)]
   rfl
 · intro _ _
   refine ⟨x143_0x0 kn kt r q (encL ts) ts.length ts.length (encL ts) (ysK ts ts.length), by simp, by rw [k143_0x0]; exact h, ?_⟩
   rw [t143_0]
   simp only [nd_ok, nd_lab, nd_rows, nd_kids, encL_length, isL_enc, decL_enc, wrap_hd, hd_pos, ld_br, ld_chk', ld_leaf, fd_br, fd_chk', fd_leaf, decide_true, decide_eq_true_eq, if_true, Int.toNat_natCast, Int.natCast_nonneg, Int.ofNat_lt, Int.ofNat_le, Bool.false_eq_true, if_false, bne_iff_ne, beq_iff_eq, ne_eq, not_true_eq_false, not_false_eq_true, Bool.not_eq_true', decide_eq_false_iff_not, reduceCtorEq, rows_length, er_ok, er_ok', dr_er, isRows_rows, toRows_rows, rows_take, rows_drop, rows_append, ints_length, isInts_ints, toInts_ints, ei_i, ei_ok, mk_headD, ints_take, ints_drop, ints_append, ints_snoc, ints_snoc', List.take_length, Nat.zero_add, Nat.le_refl, er_a, er_b, er_k, er_n, er_s, er_v, Int.lt_irrefl]
def S2 (a b : Nd) : List Sd := sidesP (entP a) (entP b) []
theorem sq143_2 (kn : OBo) (kt : Bool) (a b : Nd) : E.seq 143 [.yl 1, .ptr 0 0 0 0] [.box [.c (.sl 3 kn kt (encL [a, b]))]] = some ((S2 a b).map encS) := by
 have : sq 143 [.yl 1, .ptr 0 0 0 0] [.box [.c (.sl 3 kn kt (encL [a, b]))]] = some ((S2 a b).map encS) := by
   simp only [sq, sq143, decL_enc]; rfl
 exact this
theorem f143_2 (kn : OBo) (kt : Bool) (a b : Nd) (ha : (entL a.kids).length < 1000000000) (hb : (entL b.kids).length < 1000000000) (u : List (List V)) (q : Bool) (hw : Want ((S2 a b).map encS) u q) :
   call E 143 [.yl 1, .ptr 0 0 0 0] ([.box [.c (.sl 3 kn kt (encL [a, b]))]] ++ [.yo u q]) = some ([], [.box [.c (.sl 3 kn kt (encL [a, b]))], .yo [] q]) := by
 refine call_of (E := E) (sh := sh) (ct := ctOf [(144, s144)]) (na := 2) (m := 2) hct137 rfl rfl rfl rfl rfl rfl ?_
 have ht : p143.ft [.yl 1, .ptr 0 0 0 0] [.box [.c (.sl 3 kn kt [a.enc, b.enc])], .yo u q] = (Tr.ls 0 (s143_0 kn kt u q ([a.enc, b.enc]) (2) (0) ([a.enc, b.enc]) ([[C.sl 2 (some true) true []], [C.sl 2 (some true) true []], [C.sl 2 (some true) true []]]))) := by kernel_rfl
 show p143.fd (p143.ft [.yl 1, .ptr 0 0 0 0] [.box [.c (.sl 3 kn kt [a.enc, b.enc])], .yo u q]) = _
 rw [ht]
 obtain ⟨m, hu, hm0, hm1, hm2⟩ := want_take hw
 refine loop137 kn kt [a, b] u q (by simp) (by simpa using ⟨ha, hb⟩) _ ?_
 exact loopU hu hm0 hm1 kn kt (encL [a, b]) none false none false (some true) true (entP a) (entP b) [] u ⟨(gd_entP a).rne, (gd_entP b).rne, by simp, 0, _, Nat.lt_succ_self _, rfl, Nat.zero_le _, rfl, Nat.zero_le _, fun h => hm2 h⟩
end Go.Proofs.YtgaabjmbnomimaaGreatDoor
namespace Go.Proofs.YtgaabjmbnomimaaGreatDoor
open Go Go.Ev
section
variable {x y z : List Ent} {S : List Sd} (hs : SP x y z S) (hx : Gd x) (hy : Gd y) (hz : Gd z)
include hs
omit hs in
theorem look_right (hx : Gd x) (q : Bys) : right (look x q) = true := by
 by_cases c : look x q = []
 · rw [c]; rfl
 · obtain ⟨e, he, hp⟩ := look_ex c
   rw [<- hp, look_in hx.rise he]; exact hx.right e he
include hx hy hz
theorem SP.path {s : Sd} (h : s ∈ S) : s.p ≠ [] /\ s.p.length <= 24 := by
 refine ⟨hs.ne s h, ?_⟩
 obtain ⟨e, he, hp⟩ := hs.mem s h
 rw [<- hp]
 rcases he with he | he | he
 · exact hx.len e he
 · exact hy.len e he
 · exact hz.len e he
end
def mergeT (a b c : Nd) : Nd := putsF gM nd0 (sidesP (entP a) (entP b) (entP c))
def badL (S : List Sd) : List (List UInt8) := (S.filter badS).map Sd.p
def badT (a b c : Nd) : List (List UInt8) := badL (sidesP (entP a) (entP b) (entP c))
def chgT (a b : Nd) : List Sd := (sidesP (entP a) (entP b) []).filter fun s => decide (s.a ≠ s.b)
theorem spC (a b : Nd) : SP (entP a) (entP b) [] (sidesP (entP a) (entP b) []) := sidesP_spec (gd_entP a) (gd_entP b) Gd.nil
theorem chg_mem {a b : Nd} {s : Sd} (h : s ∈ chgT a b) : s.a = getR a s.p /\ s.b = getR b s.p /\ s.a ≠ s.b /\ s.p ≠ [] /\ s.p.length <= 24 := by
 obtain ⟨h1, h2⟩ := List.mem_filter.1 h
 have h3 := (spC a b).path (gd_entP a) (gd_entP b) Gd.nil h1
 exact ⟨by rw [getR_P, (spC a b).a s h1], by rw [getR_P, (spC a b).b s h1], by simpa using h2, h3.1, h3.2⟩
end Go.Proofs.YtgaabjmbnomimaaGreatDoor
namespace Go.Proofs.YtgaabjmbnomimaaGreatDoor
open Go Go.Ev
def metR (a b c : List Row) : List Row := if bad3 a b c = true then [] else met3 a b c
def s106 : CSpec := fun a h => match a, h with
 | [.agg [.c (.str p), .c (.sl 5 n0 t0 x0), .c (.sl 5 n1 t1 x1), .c (.sl 5 n2 t2 x2)]], [] => some ([isRows x0, isRows x1, isRows x2, decide (x0.length <= 9223372036854775807), decide (x1.length <= 9223372036854775807)],
     [.c (.sl 5 none false (rows (metR (toRows x0) (toRows x1) (toRows x2)))), V.b (!bad3 (toRows x0) (toRows x1) (toRows x2))], [])
 | _, _ => none
theorem f140 (s : Bys) (rn : OBo) (rt : Bool) (rs : List Row) (kn : OBo) (kt : Bool) (ks : List Nd) :
   call E 140 [.agg [.c (.str s), .c (.sl 5 rn rt (rows rs)), .c (.sl 3 kn kt (encL ks))]] [] = some ([V.b (!okR (.node s rs ks))], []) := by
 refine call_of (E := E) (sh := sh) (ct := ctOf [(48, s48)]) (na := 1) (m := 0) (ctOf_cons s48_ok ctOf_nil) rfl rfl rfl rfl rfl rfl ?_
 rw [t140]
 simp only [nd_ok, nd_lab, nd_rows, nd_kids, encL_length, isL_enc, decL_enc, wrap_hd, hd_pos, ld_br, ld_chk', ld_leaf, fd_br, fd_chk', fd_leaf, decide_true, decide_eq_true_eq, if_true, Int.toNat_natCast, Int.natCast_nonneg, Int.ofNat_lt, Int.ofNat_le, Bool.false_eq_true, if_false, bne_iff_ne, beq_iff_eq, ne_eq, not_true_eq_false, not_false_eq_true, Bool.not_eq_true', decide_eq_false_iff_not, reduceCtorEq, rows_length, er_ok, er_ok', dr_er, isRows_rows, toRows_rows, rows_take, rows_drop, rows_append, ints_length, isInts_ints, toInts_ints, ei_i, ei_ok, mk_headD, ints_take, ints_drop, ints_append, ints_snoc, ints_snoc', List.take_length, Nat.zero_add, Nat.le_refl, er_a, er_b, er_k, er_n, er_s, er_v, checkT_ne]
theorem s140_ok : CSpecOk E 140 s140 := by
 intro a h cs vals h' he hc
 unfold s140 at he
 split at he <;> simp only [Option.some.injEq, Prod.mk.injEq, reduceCtorEq] at he
 rename_i s rn rt xs kn kt ys
 obtain ⟨rfl, rfl, rfl⟩ := he
 simp only [allT, Bool.and_true, Bool.and_eq_true, decide_eq_true_eq] at hc
 obtain ⟨h1, h2⟩ := hc
 obtain ⟨rs, rfl⟩ := rows_ex h1
 obtain ⟨ks, rfl⟩ := isL_ex h2
 simp only [toRows_rows, decL_enc] at *
 exact f140 s rn rt rs kn kt ks
theorem idxT_drop (f : Nd -> Bool) (l : List Nd) (k j : Nat) (hk : k < l.length) : idxT f (l.drop k) j = if f l[k] = true then (j : Int) else idxT f (l.drop (k + 1)) (j + 1) := by
 rw [List.drop_eq_getElem_cons hk, idxT]
theorem f177 (nl : OBo) (tt : Bool) (ks : List Nd) (hk : ks.length <= 9223372036854775807) : call E 177 [.c (.sl 3 nl tt (encL ks)), .fn 140 []] [] = some ([V.i (idxT (fun t => !okR t) ks 0)], []) := by
 refine call_of (E := E) (sh := sh) (ct := ctOf [(140, s140)]) (na := 2) (m := 0) (ctOf_cons s140_ok ctOf_nil) rfl rfl rfl rfl rfl rfl ?_
 rw [t177, encL_length]
 refine fd_post (ctOf_cons s140_ok ctOf_nil) (by kernel_rfl) rfl (list_post (p := p177) (ctOf_cons s140_ok ctOf_nil) (b := b177_0) ks.length (fun k (_ : Unit) => s177_0 nl tt (encL ks) ks.length k) (fun k _ => idxT (fun t => !okR t) (ks.drop k) k = idxT (fun t => !okR t) ks 0) _ ?_ ?_ 0 (Nat.zero_le _) () rfl)
 · intro k _ hk2 hi
   rw [idxT_drop _ _ _ _ hk2] at hi
   have e : p177.ld b177_0 (p177.lts b177_0 (s177_0 nl tt (encL ks) ks.length k)) = (if (!okR ks[k]) = true then some (R.x (x177_0x0 k)) else some (R.s (s177_0 nl tt (encL ks) ks.length ((k + 1 : Nat) : Int)))) := by
     rw [t177_0]
     simp only [nd_ok, nd_lab, nd_rows, nd_kids, encL_length, isL_enc, decL_enc, wrap_hd, hd_pos, ld_br, ld_chk', ld_leaf, fd_br, fd_chk', fd_leaf, decide_true, decide_eq_true_eq, if_true, Int.toNat_natCast, Int.natCast_nonneg, Int.ofNat_lt, Int.ofNat_le, Bool.false_eq_true, if_false, bne_iff_ne, beq_iff_eq, ne_eq, not_true_eq_false, not_false_eq_true, Bool.not_eq_true', decide_eq_false_iff_not, reduceCtorEq, rows_length, er_ok, er_ok', dr_er, isRows_rows, toRows_rows, rows_take, rows_drop, rows_append, ints_length, isInts_ints, toInts_ints, ei_i, ei_ok, mk_headD, ints_take, ints_drop, ints_append, ints_snoc, ints_snoc', List.take_length, Nat.zero_add, Nat.le_refl, er_a, er_b, er_k, er_n, er_s, er_v, hk2, encL_getD hk2, Nd.eta, wrap_succ (show k < 9223372036854775807 by omega)]
   cases c : okR ks[k] with
   | true =>
     rw [c] at hi e
     exact .inl ⟨(), by simpa using hi, by rw [e]; rfl⟩
   | false =>
     rw [c] at hi e
     refine .inr ⟨x177_0x0 k, by simp, ?_, by rw [e]; rfl⟩
     rw [k177_0x0, fd_leaf, <- hi]; rfl
 · intro _ hi
   rw [List.drop_length] at hi
   refine ⟨x177_0x1 nl tt (encL ks) ks.length ks.length, by simp, ?_, ?_⟩
   · rw [k177_0x1, fd_leaf, <- hi]; rfl
   · rw [t177_0]; simp only [nd_ok, nd_lab, nd_rows, nd_kids, encL_length, isL_enc, decL_enc, wrap_hd, hd_pos, ld_br, ld_chk', ld_leaf, fd_br, fd_chk', fd_leaf, decide_true, decide_eq_true_eq, if_true, Int.toNat_natCast, Int.natCast_nonneg, Int.ofNat_lt, Int.ofNat_le, Bool.false_eq_true, if_false, bne_iff_ne, beq_iff_eq, ne_eq, not_true_eq_false, not_false_eq_true, Bool.not_eq_true', decide_eq_false_iff_not, reduceCtorEq, rows_length, er_ok, er_ok', dr_er, isRows_rows, toRows_rows, rows_take, rows_drop, rows_append, ints_length, isInts_ints, toInts_ints, ei_i, ei_ok, mk_headD, ints_take, ints_drop, ints_append, ints_snoc, ints_snoc', List.take_length, Nat.zero_add, Nat.le_refl, er_a, er_b, er_k, er_n, er_s, er_v, Int.lt_irrefl]
theorem s177_ok : CSpecOk E 177 s177 := by
 intro a h cs vals h' he hc
 unfold s177 at he
 split at he <;> simp only [Option.some.injEq, Prod.mk.injEq, reduceCtorEq] at he
 rename_i nl tt ys
 obtain ⟨rfl, rfl, rfl⟩ := he
 simp only [allT, Bool.and_true, Bool.and_eq_true, decide_eq_true_eq] at hc
 obtain ⟨h1, h2⟩ := hc
 obtain ⟨ks, rfl⟩ := isL_ex h1
 rw [encL_length] at h2
 simp only [decL_enc] at *
 exact f177 nl tt ks h2
theorem idxT_all (l : List Nd) (j : Nat) : decide (0 <= idxT (fun t => !okR t) l j) = !l.all okR := by
 induction l generalizing j with
 | nil => rfl
 | cons t r ih =>
   rw [idxT, List.all_cons]
   cases c : okR t with
   | true => simpa using ih (j + 1)
   | false => simp
theorem f139 (nl : OBo) (tt : Bool) (ks : List Nd) (hk : ks.length <= 9223372036854775807) : call E 139 [.c (.sl 3 nl tt (encL ks)), .fn 140 []] [] = some ([V.b (!ks.all okR)], []) := by
 refine call_of (E := E) (sh := sh) (ct := ctOf [(177, s177)]) (na := 2) (m := 0) (ctOf_cons s177_ok ctOf_nil) rfl rfl rfl rfl rfl rfl ?_
 rw [t139]
 simp only [nd_ok, nd_lab, nd_rows, nd_kids, encL_length, isL_enc, decL_enc, wrap_hd, hd_pos, ld_br, ld_chk', ld_leaf, fd_br, fd_chk', fd_leaf, decide_true, decide_eq_true_eq, if_true, Int.toNat_natCast, Int.natCast_nonneg, Int.ofNat_lt, Int.ofNat_le, Bool.false_eq_true, if_false, bne_iff_ne, beq_iff_eq, ne_eq, not_true_eq_false, not_false_eq_true, Bool.not_eq_true', decide_eq_false_iff_not, reduceCtorEq, rows_length, er_ok, er_ok', dr_er, isRows_rows, toRows_rows, rows_take, rows_drop, rows_append, ints_length, isInts_ints, toInts_ints, ei_i, ei_ok, mk_headD, ints_take, ints_drop, ints_append, ints_snoc, ints_snoc', List.take_length, Nat.zero_add, Nat.le_refl, er_a, er_b, er_k, er_n, er_s, er_v, hk, idxT_all]
theorem s139_ok : CSpecOk E 139 s139 := by
 intro a h cs vals h' he hc
 unfold s139 at he
 split at he <;> simp only [Option.some.injEq, Prod.mk.injEq, reduceCtorEq] at he
 rename_i nl tt ys
 obtain ⟨rfl, rfl, rfl⟩ := he
 simp only [allT, Bool.and_true, Bool.and_eq_true, decide_eq_true_eq] at hc
 obtain ⟨h1, h2⟩ := hc
 obtain ⟨ks, rfl⟩ := isL_ex h1
 rw [encL_length] at h2
 simp only [decL_enc] at *
 exact f139 nl tt ks h2
theorem f88 (nl : OBo) (tt : Bool) (ks : List Nd) (hk : ks.length <= 9223372036854775807) : call E 88 [.c (.sl 3 nl tt (encL ks))] [] = some ([V.b (ks.all okR)], []) := by
 refine call_of (E := E) (sh := sh) (ct := ctOf [(139, s139)]) (na := 1) (m := 0) (ctOf_cons s139_ok ctOf_nil) rfl rfl rfl rfl rfl rfl ?_
 rw [t88]
 simp only [nd_ok, nd_lab, nd_rows, nd_kids, encL_length, isL_enc, decL_enc, wrap_hd, hd_pos, ld_br, ld_chk', ld_leaf, fd_br, fd_chk', fd_leaf, decide_true, decide_eq_true_eq, if_true, Int.toNat_natCast, Int.natCast_nonneg, Int.ofNat_lt, Int.ofNat_le, Bool.false_eq_true, if_false, bne_iff_ne, beq_iff_eq, ne_eq, not_true_eq_false, not_false_eq_true, Bool.not_eq_true', decide_eq_false_iff_not, reduceCtorEq, rows_length, er_ok, er_ok', dr_er, isRows_rows, toRows_rows, rows_take, rows_drop, rows_append, ints_length, isInts_ints, toInts_ints, ei_i, ei_ok, mk_headD, ints_take, ints_drop, ints_append, ints_snoc, ints_snoc', List.take_length, Nat.zero_add, Nat.le_refl, er_a, er_b, er_k, er_n, er_s, er_v, hk, Bool.not_not]
def s88 : CSpec := fun a h => match a, h with
 | [.c (.sl 3 nl tt ys)], [] => some ([isL ys, decide (ys.length <= 9223372036854775807)], [V.b ((decL ys).all okR)], [])
 | _, _ => none
theorem s88_ok : CSpecOk E 88 s88 := by
 intro a h cs vals h' he hc
 unfold s88 at he
 split at he <;> simp only [Option.some.injEq, Prod.mk.injEq, reduceCtorEq] at he
 rename_i nl tt ys
 obtain ⟨rfl, rfl, rfl⟩ := he
 simp only [allT, Bool.and_true, Bool.and_eq_true, decide_eq_true_eq] at hc
 obtain ⟨h1, h2⟩ := hc
 obtain ⟨ks, rfl⟩ := isL_ex h1
 rw [encL_length] at h2
 simp only [decL_enc] at *
 exact f88 nl tt ks h2
theorem f93 (nl : OBo) (tt : Bool) (ys : LLC) : call E 93 [.c (.sl 3 nl tt ys)] [] = some ([.fn 143 [.ptr 0 0 0 0]], [.box [.c (.sl 3 nl tt ys)]]) := by
 refine call_of (E := E) (sh := sh) (ct := ctOf []) (na := 1) (m := 0) ctOf_nil rfl rfl rfl rfl rfl rfl ?_
 rw [t93, fd_leaf]
def s93 : CSpec := fun a h => match a, h with
 | [.c (.sl 3 nl tt ys)], [] => some ([], [.fn 143 [.ptr 0 0 0 0]], [.box [.c (.sl 3 nl tt ys)]])
 | _, _ => none
theorem s93_ok : CSpecOk E 93 s93 := by
 intro a h cs vals h' he hc
 unfold s93 at he
 split at he <;> simp only [Option.some.injEq, Prod.mk.injEq, reduceCtorEq] at he
 obtain ⟨rfl, rfl, rfl⟩ := he
 exact f93 _ _ _
end Go.Proofs.YtgaabjmbnomimaaGreatDoor
namespace Go.Proofs.YtgaabjmbnomimaaGreatDoor
open Go Go.Ev
-- cse
noncomputable abbrev p40 : Par := par E sh (ctOf [(88, s88), (93, s93), (91, s91)]) 40 2 0
abbrev s40_0 (nl4 : OBo) (t4 : Bool) (xs4 : LLC) (ys0 : LLC) (nh1 : Nat) (nlh2 : OBo) (th2 : Bool) (xsh2 : LLC) : Fr × Hp := ([(4, V.c (C.sl 3 nl4 t4 xs4)), (5, V.ptr 1 0 0 0), (17, V.fn 143 [V.ptr 2 0 0 0])], [O.mem 3 0 ys0, O.box [V.buf 0 0 0 nh1], O.box [V.c (C.sl 3 nlh2 th2 xsh2)]])
noncomputable abbrev b40_0 : Code := loopAt (codeOf E (40)) 0
abbrev g40_0 (nl4 : OBo) (t4 : Bool) (xs4 : LLC) (ys0 : LLC) (nh1 : Nat) : Fr × Hp := ([(4, V.c (C.sl 3 nl4 t4 xs4)), (5, V.ptr 1 0 0 0), (17, V.fn 143 [V.ptr 2 0 0 0])], [O.mem 3 0 ys0, O.box [V.buf 0 0 0 nh1], O.gone])
abbrev x40_0n (nl4 : OBo) (t4 : Bool) (xs4 : LLC) (ys0 : LLC) (nh1 : Nat) : Ex × Fr × Hp := (Ex.nrm, [(4, V.c (C.sl 3 nl4 t4 xs4)), (5, V.ptr 1 0 0 0), (17, V.fn 143 [V.ptr 2 0 0 0])], [O.mem 3 0 ys0, O.box [V.buf 0 0 0 nh1], O.gone])
theorem t40_0 (nl4 : OBo) (t4 : Bool) (xs4 : LLC) (ys0 : LLC) (nh1 : Nat) (p : Bys) (n0 : OBo) (t0 : Bool) (z0 : LLC) (n1 : OBo) (t1 : Bool) (z1 : LLC) (n2 : OBo) (t2 : Bool) (z2 : LLC) : p40.rts b40_0 ([V.agg [V.c (C.str p), V.c (C.sl 5 n0 t0 z0), V.c (C.sl 5 n1 t1 z1), V.c (C.sl 5 n2 t2 z2)]]) (g40_0 nl4 t4 xs4 ys0 nh1) = (Tr.chk true (Tr.chk true (Tr.chk true (Tr.chk true (Tr.chk (isRows z0) (Tr.chk (isRows z1) (Tr.chk (decide (z0.length <= 9223372036854775807)) (Tr.br (!decide (toRows z0 = toRows z1)) (Tr.chk true (Tr.chk true (Tr.chk (decide (nh1 + 1 < 4294967296)) (Tr.chk true (Tr.leaf (R.s (g40_0 nl4 t4 xs4 (List.take nh1 ys0 ++ [[C.str p, C.sl 5 n0 t0 z0, C.sl 5 n1 t1 z1]]) (nh1 + 1)))))))) (Tr.leaf (R.s (g40_0 nl4 t4 xs4 ys0 nh1))))))))))) := by kernel_rfl
theorem k40_0n (nl4 : OBo) (t4 : Bool) (xs4 : LLC) (ys0 : LLC) (nh1 : Nat) : p40.fkx 0 (x40_0n nl4 t4 xs4 ys0 nh1) = (Tr.leaf (R.out [V.c (C.sl 3 none false (List.take nh1 ys0))] [])) := by kernel_rfl
theorem t40 (s : Bys) (rn : OBo) (rt : Bool) (xs : LLC) (kn : OBo) (kt : Bool) (ys : LLC) (s2 : Bys) (rn2 : OBo) (rt2 : Bool) (xs2 : LLC) (kn2 : OBo) (kt2 : Bool) (ys2 : LLC) : p40.ft ([V.agg [V.c (C.str s), V.c (C.sl 5 rn rt xs), V.c (C.sl 3 kn kt ys)], V.agg [V.c (C.str s2), V.c (C.sl 5 rn2 rt2 xs2), V.c (C.sl 3 kn2 kt2 ys2)]]) ([]) = (Tr.chk (isL [[C.str s, C.sl 5 rn rt xs, C.sl 3 kn kt ys], [C.str s2, C.sl 5 rn2 rt2 xs2, C.sl 3 kn2 kt2 ys2]]) (Tr.chk true (Tr.br (!(decL [[C.str s, C.sl 5 rn rt xs, C.sl 3 kn kt ys], [C.str s2, C.sl 5 rn2 rt2 xs2, C.sl 3 kn2 kt2 ys2]]).all okR) (Tr.leaf (R.out [V.c (C.sl 3 none false [])] [])) (Tr.rs 0 (s40_0 (some true) true ([]) ([]) (0) (some false) true ([[C.str s, C.sl 5 rn rt xs, C.sl 3 kn kt ys], [C.str s2, C.sl 5 rn2 rt2 xs2, C.sl 3 kn2 kt2 ys2]])))))) := by kernel_rfl
end Go.Proofs.YtgaabjmbnomimaaGreatDoor
namespace Go.Proofs.YtgaabjmbnomimaaGreatDoor
open Go Go.Ev
theorem sidesF_len : ∀ (f : Nat) (x y z : List Ent), (sidesF f x y z).length <= f
 | 0, _, _, _ => Nat.le_refl _
 | f + 1, x, y, z => by
   by_cases h : leastP (leastP (leastP [] x) y) z = []
   · rw [sidesF_end f h]; exact Nat.zero_le _
   · rw [sidesF_step f rfl h, List.length_cons]; exact Nat.succ_le_succ (sidesF_len f _ _ _)
theorem encS_eq (s : Sd) : encS s = [V.agg [V.c (C.str s.p), V.c (C.sl 5 (rcN s.a) (rcT s.a) (rows s.a)), V.c (C.sl 5 (rcN s.b) (rcT s.b) (rows s.b)), V.c (C.sl 5 (rcN s.c) (rcT s.c) (rows s.c))]] := by
 rw [encS, VS, rowsV_eq, rowsV_eq, rowsV_eq]
def strs (l : List (List UInt8)) : List (List C) := l.map fun p => [C.str p]
def mergeP (a b c : Nd) : Nd × List (List UInt8) × Int := if okR a = true /\ okR b = true /\ okR c = true then (if badT a b c = [] then (mergeT a b c, [], 0) else (nd0, badT a b c, 19)) else (nd0, [], 2)
theorem right_len63 {l : List Row} (h : right l = true) : l.length <= 9223372036854775807 := by have := right_len4 h; omega
theorem entP_len (t : Nd) (h : (entL t.kids).length < 1000000000) : (entP t).length < 1000000000 := by
 rw [entP]; cases okR t
 · simp
 · exact h
def chgC (s : Sd) : List C := [C.str s.p, C.sl 5 (rcN s.a) (rcT s.a) (rows s.a), C.sl 5 (rcN s.b) (rcT s.b) (rows s.b)]
def chgs (X : List Sd) : List (List C) := X.map chgC
theorem chgs_length (X : List Sd) : (chgs X).length = X.length := List.length_map _
theorem chgs_take (X : List Sd) : (chgs X).take X.length = chgs X := by rw [<- chgs_length X, List.take_length]
theorem chgs_snoc (X : List Sd) (s : Sd) : chgs X ++ [[C.str s.p, C.sl 5 (rcN s.a) (rcT s.a) (rows s.a), C.sl 5 (rcN s.b) (rcT s.b) (rows s.b)]] = chgs (X ++ [s]) := by simp [chgs, chgC]
def chgP (a b : Nd) : List Sd := if okR a = true /\ okR b = true then chgT a b else []
theorem f40 (a b : Nd) (ha : (entL a.kids).length < 1000000000) (hb : (entL b.kids).length < 1000000000) :
   call E 40 [VT a, VT b] [] = some ([.c (.sl 3 none false (chgs (chgP a b)))], []) := by
 have hct : (ctOf [(88, s88), (93, s93), (91, s91)]).ok E := ctOf_cons s88_ok (ctOf_cons s93_ok (ctOf_cons s91_ok ctOf_nil))
 refine call_of (E := E) (sh := sh) (ct := ctOf [(88, s88), (93, s93), (91, s91)]) (na := 2) (m := 0) hct rfl rfl rfl rfl rfl rfl ?_
 show p40.fd (p40.ft [VT a, VT b] []) = some (.out _ _)
 rw [show p40.ft [VT a, VT b] [] = _ from t40 _ _ _ _ _ _ _ _ _ _ _ _ _ _]
 have hL : ([[C.str a.lab, C.sl 5 none false (rows a.rows), C.sl 3 none false (encL a.kids)], [C.str b.lab, C.sl 5 none false (rows b.rows), C.sl 3 none false (encL b.kids)]] : LLC) = encL [a, b] := by
   simp only [encL, Nd.enc_eq]
 rw [hL]
 simp only [nd_ok, nd_lab, nd_rows, nd_kids, encL_length, isL_enc, decL_enc, wrap_hd, hd_pos, ld_br, ld_chk', ld_leaf, fd_br, fd_chk', fd_leaf, decide_true, decide_eq_true_eq, if_true, Int.toNat_natCast, Int.natCast_nonneg, Int.ofNat_lt, Int.ofNat_le, Bool.false_eq_true, if_false, bne_iff_ne, beq_iff_eq, ne_eq, not_true_eq_false, not_false_eq_true, Bool.not_eq_true', decide_eq_false_iff_not, reduceCtorEq, rows_length, er_ok, er_ok', dr_er, isRows_rows, toRows_rows, rows_take, rows_drop, rows_append, ints_length, isInts_ints, toInts_ints, ei_i, ei_ok, mk_headD, ints_take, ints_drop, ints_append, ints_snoc, ints_snoc', List.take_length, Nat.zero_add, Nat.le_refl, er_a, er_b, er_k, er_n, er_s, er_v, List.all_cons, List.all_nil, Bool.and_true]
 have hand : (okR a && okR b) = decide (okR a = true /\ okR b = true) := by
   cases okR a <;> cases okR b <;> rfl
 by_cases hok : okR a = true /\ okR b = true
 · rw [hand, decide_eq_true hok]
   rw [if_neg (by simp)]
   have hs := spC a b
   have hlen : (chgT a b).length < 4294967295 := by
     have h1 : (chgT a b).length <= (S2 a b).length := List.length_filter_le _ _
     have h2 : (S2 a b).length <= (entP a).length + (entP b).length + 0 + 1 := sidesF_len _ _ _ _
     have := entP_len a ha; have := entP_len b hb
     omega
   refine fd_rpost hct (by kernel_rfl) rfl (ranges_post (p := p40) hct (c := b40_0) (gi := 143) (caps := [.ptr 2 0 0 0]) (args := [.yl 1, .ptr 0 0 0 0])
     (h0 := [.box [.c (.sl 3 (some false) true (encL [a, b]))]]) (ids := [2]) (by kernel_rfl) (S2 a b) encS rfl (by kernel_rfl)
     (sq143_2 (some false) true a b)
     (fun u b' hw => ⟨_, _, f143_2 (some false) true a b ha hb u b' hw, rfl⟩)
     (fun (acc : List Sd) => g40_0 (some true) true [] (chgs acc) acc.length)
     (fun l acc => acc ++ l.filter (fun s => decide (s.a ≠ s.b)) = chgT a b /\ ∀ s ∈ l, s ∈ S2 a b) _ ?_ ?_ [] rfl ⟨rfl, fun s h => h⟩)
   · rintro s l acc ⟨h1, h2⟩
     left
     have hsm := h2 s (by simp)
     have hra : right s.a = true := by rw [hs.a s hsm]; exact look_right (gd_entP a) _
     have la := right_len63 hra
     rw [encS_eq]
     by_cases hd : s.a = s.b
     · refine ⟨acc, ⟨?_, fun u hu => h2 u (by simp [hu])⟩, ?_⟩
       · rw [<- h1]; simp [hd]
       · refine (congrArg _ (t40_0 (some true) true [] (chgs acc) acc.length s.p _ _ (rows s.a) _ _ (rows s.b) _ _ (rows s.c))).trans ?_
         have hd' : decide (s.a = s.b) = true := decide_eq_true hd
         simp only [rd_br, rd_chk', rd_leaf, if_true, isRows_rows, toRows_rows, rows_length, la, hd', decide_true, Bool.not_true, Bool.false_eq_true, if_false]
     · have hl1 : acc.length + 1 < 4294967296 := by
         have := congrArg List.length h1
         rw [List.filter_cons_of_pos (by simpa using hd)] at this
         simp only [List.length_append, List.length_cons] at this; omega
       refine ⟨acc ++ [s], ⟨?_, fun u hu => h2 u (by simp [hu])⟩, ?_⟩
       · rw [<- h1, List.filter_cons_of_pos (by simpa using hd)]; simp
       · refine (congrArg _ (t40_0 (some true) true [] (chgs acc) acc.length s.p _ _ (rows s.a) _ _ (rows s.b) _ _ (rows s.c))).trans ?_
         have hd' : decide (s.a = s.b) = false := decide_eq_false hd
         simp only [rd_br, rd_chk', rd_leaf, if_true, isRows_rows, toRows_rows, rows_length, la, hd', hl1, decide_true, Bool.not_false, chgs_take, chgs_snoc, List.length_append, List.length_singleton]
   · rintro acc ⟨h1, _⟩
     rw [List.filter_nil, List.append_nil] at h1
     subst h1
     refine (congrArg _ (k40_0n (some true) true [] _ _)).trans ?_
     rw [fd_leaf, chgs_take, chgP, if_pos hok]
 · rw [hand, decide_eq_false hok]
   rw [if_pos (by simp), chgP, if_neg hok]
   rfl
end Go.Proofs.YtgaabjmbnomimaaGreatDoor
namespace Go.Proofs.YtgaabjmbnomimaaGreatDoor
open Go Go.Ev
-- cse
noncomputable abbrev p36 : Par := par E sh (ctOf []) 36 1 0
abbrev s36_0 (nl : OBo) (tt : Bool) (xs : LLC) (i3 : Int) : Fr × Hp := ([(0, V.c (C.sl 5 nl tt xs)), (3, V.c (C.int IntKind.i64 i3))], [])
noncomputable abbrev b36_0 : Code := loopAt (codeOf E (36)) 0
abbrev x36_0x0 : Ex × Fr × Hp := (Ex.ret, [(2, V.c (C.bool false))], [])
abbrev x36_0x1 (nl : OBo) (tt : Bool) (xs : LLC) (i3 : Int) : Ex × Fr × Hp := (Ex.exit 0, [(0, V.c (C.sl 5 nl tt xs)), (3, V.c (C.int IntKind.i64 i3)), (10, V.c (C.bool false))], [])
theorem t36_0 (nl : OBo) (tt : Bool) (xs : LLC) (i3 : Int) : p36.lts b36_0 (s36_0 nl tt xs i3) = (Tr.br (decide (i3 < (↑xs.length : Int))) (Tr.chk (decide (0 <= i3)) (Tr.chk true (Tr.chk (decide (i3.toNat < xs.length)) (Tr.chk (shOk [Sk.int IntKind.i64, Sk.int IntKind.i64, Sk.int IntKind.i64, Sk.int IntKind.i64, Sk.str] (xs.getD i3.toNat [])) (Tr.br (decide (100 < (↑((xs.getD i3.toNat []).tail.tail.tail.tail.headD C.pnil).st.length : Int))) (Tr.leaf (R.x x36_0x0)) (Tr.leaf (R.s (s36_0 nl tt xs (IntKind.i64.wrap (i3 + 1)))))))))) (Tr.leaf (R.x (x36_0x1 nl tt xs i3)))) := by kernel_rfl
theorem k36_0x0 : p36.fkx 0 x36_0x0 = (Tr.leaf (R.out [V.c (C.bool false)] [])) := by kernel_rfl
theorem k36_0x1 (nl : OBo) (tt : Bool) (xs : LLC) (i3 : Int) : p36.fkx 0 (x36_0x1 nl tt xs i3) = (Tr.leaf (R.out [V.c (C.bool true)] [])) := by kernel_rfl
theorem t36 (nl : OBo) (tt : Bool) (xs : LLC) : p36.ft ([V.c (C.sl 5 nl tt xs)]) ([]) = (Tr.br (decide (70 < (↑xs.length : Int))) (Tr.leaf (R.out [V.c (C.bool false)] [])) (Tr.ls 0 (s36_0 nl tt xs (0)))) := by kernel_rfl
def s36 : CSpec := fun a h => match a, h with
 | [.c (.sl 5 nl tt xs)], [] => some ([isRows xs], [V.b (shortR (toRows xs))], [])
 | _, _ => none
variable (dd : Nat)
def s85 : CSpec := fun a h => match a, h with
 | [.agg [.c (.str s), .c (.sl 5 rn rt xs), .c (.sl 3 kn kt ys)], .c (.int .i64 n), .c (.int .i64 d)], [] => some ([isRows xs, isL ys, decide (depL (decL ys) < dd), decide (0 <= n), decide (n <= 1000), decide (-1000 <= d), decide (d <= 1000), lensT (.node s (toRows xs) (decL ys))], [V.i (leftT (.node s (toRows xs) (decL ys)) n d)], [])
 | _, _ => none
noncomputable abbrev p85 : Par := par E sh (ctOf [(36, s36), (85, s85 dd)]) 85 3 0
abbrev s85_0 (s : Bys) (rn : OBo) (rt : Bool) (xs : LLC) (kn : OBo) (kt : Bool) (ys : LLC) (d : Int) (i1 : Int) (i7 : Int) : Fr × Hp := ([(1, V.c (C.int IntKind.i64 i1)), (2, V.c (C.int IntKind.i64 d)), (3, V.ptr 0 0 0 0), (7, V.c (C.int IntKind.i64 i7))], [O.box [V.c (C.str s), V.c (C.sl 5 rn rt xs), V.c (C.sl 3 kn kt ys)]])
noncomputable abbrev b85_0 : Code := loopAt (codeOf E (85)) 0
abbrev x85_0x0 (s : Bys) (rn : OBo) (rt : Bool) (xs : LLC) (kn : OBo) (kt : Bool) (ys : LLC) (d : Int) (i1 : Int) (i7 : Int) : Ex × Fr × Hp := (Ex.exit 0, [(1, V.c (C.int IntKind.i64 i1)), (2, V.c (C.int IntKind.i64 d)), (3, V.ptr 0 0 0 0), (7, V.c (C.int IntKind.i64 i7)), (35, V.c (C.bool false))], [O.box [V.c (C.str s), V.c (C.sl 5 rn rt xs), V.c (C.sl 3 kn kt ys)]])
theorem t85_0 (s : Bys) (rn : OBo) (rt : Bool) (xs : LLC) (kn : OBo) (kt : Bool) (ys : LLC) (d : Int) (i1 : Int) (i7 : Int) : (p85 dd).lts b85_0 (s85_0 s rn rt xs kn kt ys d i1 i7) = (Tr.br (decide (i7 < (↑ys.length : Int))) (Tr.br (decide (0 < i1)) (Tr.chk (decide (0 <= i7)) (Tr.chk true (Tr.chk (decide (i7.toNat < ys.length)) (Tr.chk (shOk [Sk.str, Sk.sl 5, Sk.sl 3] (ys.getD i7.toNat [])) (Tr.chk (isRows ((ys.getD i7.toNat []).tail.headD C.pnil).xs) (Tr.chk (isL ((ys.getD i7.toNat []).tail.tail.headD C.pnil).xs) (Tr.chk (decide (depL (decL ((ys.getD i7.toNat []).tail.tail.headD C.pnil).xs) < dd)) (Tr.chk (decide (0 <= i1)) (Tr.chk (decide (i1 <= 1000)) (Tr.chk (decide (-1000 <= IntKind.i64.wrap (d - 1))) (Tr.chk (decide (IntKind.i64.wrap (d - 1) <= 1000)) (Tr.chk (lensT (Nd.node ((ys.getD i7.toNat []).headD C.pnil).st (toRows ((ys.getD i7.toNat []).tail.headD C.pnil).xs) (decL ((ys.getD i7.toNat []).tail.tail.headD C.pnil).xs))) (Tr.leaf (R.s (s85_0 s rn rt xs kn kt ys d (leftT (Nd.node ((ys.getD i7.toNat []).headD C.pnil).st (toRows ((ys.getD i7.toNat []).tail.headD C.pnil).xs) (decL ((ys.getD i7.toNat []).tail.tail.headD C.pnil).xs)) i1 (IntKind.i64.wrap (d - 1))) (IntKind.i64.wrap (i7 + 1))))))))))))))))) (Tr.leaf (R.x (x85_0x0 s rn rt xs kn kt ys d i1 i7)))) (Tr.leaf (R.x (x85_0x0 s rn rt xs kn kt ys d i1 i7)))) := by kernel_rfl
theorem k85_0x0 (dd : Nat) (s : Bys) (rn : OBo) (rt : Bool) (xs : LLC) (kn : OBo) (kt : Bool) (ys : LLC) (d : Int) (i1 : Int) (i7 : Int) : (p85 dd).fkx 0 (x85_0x0 s rn rt xs kn kt ys d i1 i7) = (Tr.leaf (R.out [V.c (C.int IntKind.i64 i1)] [])) := by kernel_rfl
theorem t85 (s : Bys) (rn : OBo) (rt : Bool) (xs : LLC) (kn : OBo) (kt : Bool) (ys : LLC) (n : Int) (d : Int) : (p85 dd).ft ([V.agg [V.c (C.str s), V.c (C.sl 5 rn rt xs), V.c (C.sl 3 kn kt ys)], V.i n, V.i d]) ([]) = (Tr.chk true (Tr.br (decide (d < 1)) (Tr.leaf (R.out [V.c (C.int IntKind.i64 0)] [])) (Tr.br (decide (IntKind.i64.wrap (IntKind.i64.wrap (n - 1) - IntKind.i64.wrap ((↑s.length : Int).tdiv 50)) < 1)) (Tr.leaf (R.out [V.c (C.int IntKind.i64 0)] [])) (Tr.chk (isRows xs) (Tr.br (!shortR (toRows xs)) (Tr.leaf (R.out [V.c (C.int IntKind.i64 0)] [])) (Tr.ls 0 (s85_0 s rn rt xs kn kt ys d (IntKind.i64.wrap (IntKind.i64.wrap (n - 1) - IntKind.i64.wrap ((↑s.length : Int).tdiv 50))) (0)))))))) := by kernel_rfl
noncomputable abbrev p34 : Par := par E sh (ctOf [(85, s85 dd)]) 34 1 0
theorem t34 (s : Bys) (rn : OBo) (rt : Bool) (xs : LLC) (kn : OBo) (kt : Bool) (ys : LLC) : (p34 dd).ft ([V.agg [V.c (C.str s), V.c (C.sl 5 rn rt xs), V.c (C.sl 3 kn kt ys)]]) ([]) = (Tr.chk (isRows xs) (Tr.chk (isL ys) (Tr.chk (decide (depL (decL ys) < dd)) (Tr.chk true (Tr.chk true (Tr.chk true (Tr.chk true (Tr.chk (lensT (Nd.node s (toRows xs) (decL ys))) (Tr.leaf (R.out [V.c (C.bool (decide (0 < leftT (Nd.node s (toRows xs) (decL ys)) 200 60)))] [])))))))))) := by kernel_rfl
def smallD (t : Nd) : Bool := decide (0 < leftT t 200 60)
def s34 : CSpec := fun a h => match a, h with
 | [.agg [.c (.str s), .c (.sl 5 rn rt xs), .c (.sl 3 kn kt ys)]], [] => some ([isRows xs, isL ys, lensT (.node s (toRows xs) (decL ys))], [V.b (smallD (.node s (toRows xs) (decL ys)))], [])
 | _, _ => none
def s35 : CSpec := fun a h => match a, h with
 | [], [] => some ([], [V.b true], [])
 | _, _ => none
def s53 : CSpec := fun a h => match a, h with
 | [.agg [.c (.str s), .c (.sl 5 none false xs), .c (.sl 3 none false ys)], .agg [.c (.str s2), .c (.sl 5 none false xs2), .c (.sl 3 none false ys2)], .agg [.c (.str s9003), .c (.sl 5 none false xs3), .c (.sl 3 none false ys3)]], [] => some ([isRows xs, isL ys, isRows xs2, isL ys2, isRows xs3, isL ys3, decide ((entL (decL ys)).length < 1000000000), decide ((entL (decL ys2)).length < 1000000000), decide ((entL (decL ys3)).length < 1000000000)],
   [VT (mergeP (.node s (toRows xs) (decL ys)) (.node s2 (toRows xs2) (decL ys2)) (.node s9003 (toRows xs3) (decL ys3))).1, .c (.sl 1 none false (strs (mergeP (.node s (toRows xs) (decL ys)) (.node s2 (toRows xs2) (decL ys2)) (.node s9003 (toRows xs3) (decL ys3))).2.1)), V.i (mergeP (.node s (toRows xs) (decL ys)) (.node s2 (toRows xs2) (decL ys2)) (.node s9003 (toRows xs3) (decL ys3))).2.2], [])
 | _, _ => none
def s40 : CSpec := fun a h => match a, h with
 | [.agg [.c (.str s), .c (.sl 5 none false xs), .c (.sl 3 none false ys)], .agg [.c (.str s2), .c (.sl 5 none false xs2), .c (.sl 3 none false ys2)]], [] => some ([isRows xs, isL ys, isRows xs2, isL ys2, decide ((entL (decL ys)).length < 1000000000), decide ((entL (decL ys2)).length < 1000000000)],
   [.c (.sl 3 none false (chgs (chgP (.node s (toRows xs) (decL ys)) (.node s2 (toRows xs2) (decL ys2)))))], [])
 | _, _ => none
end Go.Proofs.YtgaabjmbnomimaaGreatDoor
namespace Go.Proofs.YtgaabjmbnomimaaGreatDoor
open Go Go.Ev
theorem f36 (l : List Row) (nl : OBo) (tt : Bool) : call E 36 [.c (.sl 5 nl tt (rows l))] [] = some ([V.b (shortR l)], []) := by
 have hct : (ctOf []).ok E := ctOf_nil
 refine call_of (E := E) (sh := sh) (ct := ctOf []) (na := 1) (m := 0) hct rfl rfl rfl rfl rfl rfl ?_
 rw [t36, rows_length, fd_br]
 unfold shortR
 by_cases c0 : (70 : Int) < l.length
 · rw [if_pos (by simpa using c0), fd_leaf]
   have : ¬ l.length <= 70 := by omega
   simp [this]
 rw [if_neg (by simpa using c0)]
 have c0' : l.length <= 70 := by omega
 simp only [c0', decide_true, Bool.true_and]
 refine fd_post hct (by kernel_rfl) rfl (list_post (p := p36) hct (b := b36_0) l.length (fun k (_ : Unit) => s36_0 nl tt (rows l) k) (fun k _ => ((l.drop k).all fun r => decide (r.v.s.length <= 100)) = (l.all fun r => decide (r.v.s.length <= 100))) _ ?_ ?_ 0 (Nat.zero_le _) () rfl)
 · rintro k _ hk hi
   rw [List.drop_eq_getElem_cons hk, List.all_cons] at hi
   rw [t36_0]
   simp only [ld_br, ld_chk', ld_leaf, fd_br, fd_chk', fd_leaf, decide_true, decide_eq_true_eq, if_true, Int.toNat_natCast, Int.natCast_nonneg, Int.ofNat_lt, Int.ofNat_le, Bool.false_eq_true, if_false, bne_iff_ne, beq_iff_eq, ne_eq, not_true_eq_false, not_false_eq_true, Bool.not_eq_true', decide_eq_false_iff_not, reduceCtorEq, rows_length, er_ok, er_ok', dr_er, isRows_rows, toRows_rows, rows_take, rows_drop, rows_append, ints_length, isInts_ints, toInts_ints, ei_i, ei_ok, mk_headD, ints_take, ints_drop, ints_append, ints_snoc, ints_snoc', List.take_length, Nat.zero_add, Nat.le_refl, er_a, er_b, er_k, er_n, er_s, er_v, hk, rows_getD hk, wrap_succ (show k < 9223372036854775807 by omega)]
   by_cases c : (100 : Int) < l[k].v.s.length
   · have : ¬ l[k].v.s.length <= 100 := by omega
     simp only [this, decide_false, Bool.false_and] at hi
     exact .inr ⟨x36_0x0, by simp, by rw [k36_0x0, fd_leaf, <- hi], by rw [if_pos c]⟩
   · have : l[k].v.s.length <= 100 := by omega
     simp only [this, decide_true, Bool.true_and] at hi
     exact .inl ⟨(), hi, by rw [if_neg c]⟩
 · rintro _ hi
   rw [List.drop_length, List.all_nil] at hi
   rw [t36_0]
   exact ⟨x36_0x1 nl tt (rows l) l.length, by simp, by rw [k36_0x1, fd_leaf, <- hi], by simp only [ld_br, ld_chk', ld_leaf, fd_br, fd_chk', fd_leaf, decide_true, decide_eq_true_eq, if_true, Int.toNat_natCast, Int.natCast_nonneg, Int.ofNat_lt, Int.ofNat_le, Bool.false_eq_true, if_false, bne_iff_ne, beq_iff_eq, ne_eq, not_true_eq_false, not_false_eq_true, Bool.not_eq_true', decide_eq_false_iff_not, reduceCtorEq, rows_length, er_ok, er_ok', dr_er, isRows_rows, toRows_rows, rows_take, rows_drop, rows_append, ints_length, isInts_ints, toInts_ints, ei_i, ei_ok, mk_headD, ints_take, ints_drop, ints_append, ints_snoc, ints_snoc', List.take_length, Nat.zero_add, Nat.le_refl, er_a, er_b, er_k, er_n, er_s, er_v, Int.lt_irrefl]⟩
theorem s36_ok : CSpecOk E 36 s36 := by
 intro a h cs vals h' he hc
 unfold s36 at he
 split at he <;> simp only [Option.some.injEq, Prod.mk.injEq, reduceCtorEq] at he
 rename_i nl tt xs
 obtain ⟨rfl, rfl, rfl⟩ := he
 simp only [allT, Bool.and_true, Bool.and_eq_true, decide_eq_true_eq] at hc
 obtain ⟨l, rfl⟩ := rows_ex hc
 rw [toRows_rows]
 exact f36 l nl tt
theorem f85 (dd : Nat) (ih : CSpecOk E 85 (s85 dd)) (s : Bys) (rn : OBo) (rt : Bool) (rs : List Row) (kn : OBo) (kt : Bool) (ks : List Nd) (n d : Int) (hd : depL ks < dd + 1) (h0 : 0 <= n) (h1 : n <= 1000) (h2 : -1000 <= d) (h3 : d <= 1000) (hl : lensT (.node s rs ks) = true) :
   call E 85 [.agg [.c (.str s), .c (.sl 5 rn rt (rows rs)), .c (.sl 3 kn kt (encL ks))], V.i n, V.i d] [] = some ([V.i (leftT (.node s rs ks) n d)], []) := by
 have hct : (ctOf [(36, s36), (85, s85 dd)]).ok E := ctOf_cons s36_ok (ctOf_cons ih ctOf_nil)
 refine call_of (E := E) (sh := sh) (ct := ctOf [(36, s36), (85, s85 dd)]) (na := 3) (m := 0) hct rfl rfl rfl rfl rfl rfl ?_
 show (p85 dd).fd ((p85 dd).ft _ _) = _
 rw [lensT] at hl
 simp only [Bool.and_eq_true, decide_eq_true_eq] at hl
 obtain ⟨⟨⟨l1, l2⟩, l4⟩, l3⟩ := hl
 have w0 : ((s.length : Int).tdiv 50) = ((s.length / 50 : Nat) : Int) := rfl
 have w1 : IntKind.wrap .i64 (IntKind.wrap .i64 (n - 1) - IntKind.wrap .i64 ((s.length : Int).tdiv 50)) = n - 1 - ((s.length / 50 : Nat) : Int) := by
   rw [w0, wrap_same (n := n - 1) (by omega) (by omega), wrap_same (n := ((s.length / 50 : Nat) : Int)) (by omega) (by omega), wrap_same (by omega) (by omega)]
 rw [t85, w1]
 simp only [nd_ok, nd_lab, nd_rows, nd_kids, encL_length, isL_enc, decL_enc, wrap_hd, hd_pos, ld_br, ld_chk', ld_leaf, fd_br, fd_chk', fd_leaf, decide_true, decide_eq_true_eq, if_true, Int.toNat_natCast, Int.natCast_nonneg, Int.ofNat_lt, Int.ofNat_le, Bool.false_eq_true, if_false, bne_iff_ne, beq_iff_eq, ne_eq, not_true_eq_false, not_false_eq_true, Bool.not_eq_true', decide_eq_false_iff_not, reduceCtorEq, rows_length, er_ok, er_ok', dr_er, isRows_rows, toRows_rows, rows_take, rows_drop, rows_append, ints_length, isInts_ints, toInts_ints, ei_i, ei_ok, mk_headD, ints_take, ints_drop, ints_append, ints_snoc, ints_snoc', List.take_length, Nat.zero_add, Nat.le_refl, er_a, er_b, er_k, er_n, er_s, er_v]
 rw [leftT]
 have hm : n - 1 - ((s.length / 50 : Nat) : Int) <= 1000 := by omega
 generalize n - 1 - ((s.length / 50 : Nat) : Int) = m at *
 by_cases c1 : d < 1
 · simp [c1]
 rw [if_neg c1]
 by_cases c2 : m < 1
 · simp [c2]
 rw [if_neg c2]
 by_cases c3 : shortR rs = false
 · simp [c3]
 rw [if_neg c3, if_neg (show ¬ (d < 1 \/ m < 1 \/ shortR rs = false) from fun h => h.elim c1 fun h => h.elim c2 c3)]
 have hm0 : 0 <= m := by omega
 have w2 : IntKind.wrap .i64 (d - 1) = d - 1 := wrap_same (by omega) (by omega)
 refine fd_post hct (by kernel_rfl) rfl (list_post (p := p85 dd) hct (b := b85_0) ks.length (fun k (m : Int) => s85_0 s rn rt (rows rs) kn kt (encL ks) d m k) (fun k m' => leftL (ks.drop k) m' (d - 1) = leftL ks m (d - 1) /\ 0 <= m' /\ m' <= 1000) _ ?_ ?_ 0 (Nat.zero_le _) m ⟨rfl, hm0, hm⟩)
 · rintro k m' hk ⟨hi, hm1, hm2⟩
   rw [List.drop_eq_getElem_cons hk, leftL_cons] at hi
   have hkid : depL ks[k].kids < dd := by have := depL_kid (List.getElem_mem hk); omega
   rw [t85_0]
   by_cases c : 0 < m'
   · rw [if_pos c] at hi
     have hb := leftT_le ks[k] m' (d - 1) hm1
     refine .inl ⟨leftT ks[k] m' (d - 1), ⟨hi, hb.1, by omega⟩, ?_⟩
     simp only [nd_ok, nd_lab, nd_rows, nd_kids, encL_length, isL_enc, decL_enc, wrap_hd, hd_pos, ld_br, ld_chk', ld_leaf, fd_br, fd_chk', fd_leaf, decide_true, decide_eq_true_eq, if_true, Int.toNat_natCast, Int.natCast_nonneg, Int.ofNat_lt, Int.ofNat_le, Bool.false_eq_true, if_false, bne_iff_ne, beq_iff_eq, ne_eq, not_true_eq_false, not_false_eq_true, Bool.not_eq_true', decide_eq_false_iff_not, reduceCtorEq, rows_length, er_ok, er_ok', dr_er, isRows_rows, toRows_rows, rows_take, rows_drop, rows_append, ints_length, isInts_ints, toInts_ints, ei_i, ei_ok, mk_headD, ints_take, ints_drop, ints_append, ints_snoc, ints_snoc', List.take_length, Nat.zero_add, Nat.le_refl, er_a, er_b, er_k, er_n, er_s, er_v, hk, encL_getD hk, nd_node, hkid, w2, hm1, hm2, c, show -1000 <= d - 1 by omega, show d - 1 <= 1000 by omega, lensL_mem l3 (List.getElem_mem hk), wrap_succ (show k < 9223372036854775807 by omega)]
   · rw [if_neg c] at hi
     exact .inr ⟨x85_0x0 s rn rt (rows rs) kn kt (encL ks) d m' k, by simp, by rw [k85_0x0, fd_leaf, <- hi], by simp only [nd_ok, nd_lab, nd_rows, nd_kids, encL_length, isL_enc, decL_enc, wrap_hd, hd_pos, ld_br, ld_chk', ld_leaf, fd_br, fd_chk', fd_leaf, decide_true, decide_eq_true_eq, if_true, Int.toNat_natCast, Int.natCast_nonneg, Int.ofNat_lt, Int.ofNat_le, Bool.false_eq_true, if_false, bne_iff_ne, beq_iff_eq, ne_eq, not_true_eq_false, not_false_eq_true, Bool.not_eq_true', decide_eq_false_iff_not, reduceCtorEq, rows_length, er_ok, er_ok', dr_er, isRows_rows, toRows_rows, rows_take, rows_drop, rows_append, ints_length, isInts_ints, toInts_ints, ei_i, ei_ok, mk_headD, ints_take, ints_drop, ints_append, ints_snoc, ints_snoc', List.take_length, Nat.zero_add, Nat.le_refl, er_a, er_b, er_k, er_n, er_s, er_v, hk, c]⟩
 · rintro m' ⟨hi, hm1, hm2⟩
   rw [List.drop_length, leftL] at hi
   rw [t85_0]
   exact ⟨x85_0x0 s rn rt (rows rs) kn kt (encL ks) d m' ks.length, by simp, by rw [k85_0x0, fd_leaf, <- hi], by simp only [nd_ok, nd_lab, nd_rows, nd_kids, encL_length, isL_enc, decL_enc, wrap_hd, hd_pos, ld_br, ld_chk', ld_leaf, fd_br, fd_chk', fd_leaf, decide_true, decide_eq_true_eq, if_true, Int.toNat_natCast, Int.natCast_nonneg, Int.ofNat_lt, Int.ofNat_le, Bool.false_eq_true, if_false, bne_iff_ne, beq_iff_eq, ne_eq, not_true_eq_false, not_false_eq_true, Bool.not_eq_true', decide_eq_false_iff_not, reduceCtorEq, rows_length, er_ok, er_ok', dr_er, isRows_rows, toRows_rows, rows_take, rows_drop, rows_append, ints_length, isInts_ints, toInts_ints, ei_i, ei_ok, mk_headD, ints_take, ints_drop, ints_append, ints_snoc, ints_snoc', List.take_length, Nat.zero_add, Nat.le_refl, er_a, er_b, er_k, er_n, er_s, er_v, Int.lt_irrefl]⟩
theorem s85_ok : ∀ d, CSpecOk E 85 (s85 d)
 | 0 => by
   intro a h cs vals h' he hc
   unfold s85 at he
   split at he <;> simp only [Option.some.injEq, Prod.mk.injEq, reduceCtorEq] at he
   obtain ⟨rfl, rfl, rfl⟩ := he
   simp [allT] at hc
 | d + 1 => by
   intro a h cs vals h' he hc
   unfold s85 at he
   split at he <;> simp only [Option.some.injEq, Prod.mk.injEq, reduceCtorEq] at he
   rename_i s rn rt xs kn kt ys n k
   obtain ⟨rfl, rfl, rfl⟩ := he
   simp only [allT, Bool.and_true, Bool.and_eq_true, decide_eq_true_eq] at hc
   obtain ⟨h1, h2, h3, h4, h5, h6, h7, h8⟩ := hc
   obtain ⟨rs, rfl⟩ := rows_ex h1
   obtain ⟨ks, rfl⟩ := isL_ex h2
   simp only [toRows_rows, decL_enc] at *
   exact f85 d (s85_ok d) s rn rt rs kn kt ks n k h3 h4 h5 h6 h7 h8
theorem f34 (t : Nd) (rn : OBo) (rt : Bool) (kn : OBo) (kt : Bool) (hl : lensT t = true) :
   call E 34 [.agg [.c (.str t.lab), .c (.sl 5 rn rt (rows t.rows)), .c (.sl 3 kn kt (encL t.kids))]] [] = some ([V.b (smallD t)], []) := by
 have hct : (ctOf [(85, s85 (depL t.kids + 1))]).ok E := ctOf_cons (s85_ok _) ctOf_nil
 refine call_of (E := E) (sh := sh) (ct := ctOf [(85, s85 (depL t.kids + 1))]) (na := 1) (m := 0) hct rfl rfl rfl rfl rfl rfl ?_
 show (p34 (depL t.kids + 1)).fd ((p34 (depL t.kids + 1)).ft _ _) = _
 rw [t34]
 simp only [nd_ok, nd_lab, nd_rows, nd_kids, encL_length, isL_enc, decL_enc, wrap_hd, hd_pos, ld_br, ld_chk', ld_leaf, fd_br, fd_chk', fd_leaf, decide_true, decide_eq_true_eq, if_true, Int.toNat_natCast, Int.natCast_nonneg, Int.ofNat_lt, Int.ofNat_le, Bool.false_eq_true, if_false, bne_iff_ne, beq_iff_eq, ne_eq, not_true_eq_false, not_false_eq_true, Bool.not_eq_true', decide_eq_false_iff_not, reduceCtorEq, rows_length, er_ok, er_ok', dr_er, isRows_rows, toRows_rows, rows_take, rows_drop, rows_append, ints_length, isInts_ints, toInts_ints, ei_i, ei_ok, mk_headD, ints_take, ints_drop, ints_append, ints_snoc, ints_snoc', List.take_length, Nat.zero_add, Nat.le_refl, er_a, er_b, er_k, er_n, er_s, er_v, nd_node, show depL t.kids < depL t.kids + 1 by omega, hl, smallD]
theorem s34_ok : CSpecOk E 34 s34 := by
 intro a h cs vals h' he hc
 unfold s34 at he
 split at he <;> simp only [Option.some.injEq, Prod.mk.injEq, reduceCtorEq] at he
 rename_i s rn rt xs kn kt ys
 obtain ⟨rfl, rfl, rfl⟩ := he
 simp only [allT, Bool.and_true, Bool.and_eq_true, decide_eq_true_eq] at hc
 obtain ⟨h1, h2, h3⟩ := hc
 obtain ⟨rs, rfl⟩ := rows_ex h1
 obtain ⟨ks, rfl⟩ := isL_ex h2
 simp only [toRows_rows, decL_enc] at *
 exact f34 (.node s rs ks) rn rt kn kt h3
set_option maxRecDepth 100000 in
theorem f35 : call E 35 [] [] = some ([V.b true], []) := call_iff.2 ⟨200, by kernel_rfl⟩
theorem s35_ok : CSpecOk E 35 s35 := by
 intro a h cs vals h' he hc
 unfold s35 at he
 split at he <;> simp only [Option.some.injEq, Prod.mk.injEq, reduceCtorEq] at he
 obtain ⟨rfl, rfl, rfl⟩ := he
 exact f35
theorem s40_ok : CSpecOk E 40 s40 := by
 intro a h cs vals h' he hc
 unfold s40 at he
 split at he <;> simp only [Option.some.injEq, Prod.mk.injEq, reduceCtorEq] at he
 rename_i s xs ys s2 xs2 ys2
 obtain ⟨rfl, rfl, rfl⟩ := he
 simp only [allT, Bool.and_true, Bool.and_eq_true, decide_eq_true_eq] at hc
 obtain ⟨h1, h2, h3, h4, h7, h8⟩ := hc
 obtain ⟨rs, rfl⟩ := rows_ex h1
 obtain ⟨ks, rfl⟩ := isL_ex h2
 obtain ⟨rs2, rfl⟩ := rows_ex h3
 obtain ⟨ks2, rfl⟩ := isL_ex h4
 simp only [toRows_rows, decL_enc] at *
 exact f40 (.node s rs ks) (.node s2 rs2 ks2) h7 h8
end Go.Proofs.YtgaabjmbnomimaaGreatDoor
namespace Go.Proofs.YtgaabjmbnomimaaGreatDoor
open Go Go.Ev
mutual
theorem leftT_ent : ∀ (t : Nd) (n d : Int), 0 <= n -> 0 < leftT t n d -> ((entT t).length : Int) <= n - leftT t n d
 | .node lab rs ks, n, d, h0, h => by
   rw [leftT] at h ⊢
   split at h
   · omega
   · rename_i hc
     rw [if_neg hc]
     have := leftL_ent ks (n - 1 - ((lab.length / 50 : Nat) : Int)) (d - 1) (by omega) h
     have hl := entT_node [] lab rs ks
     rw [pre_nil] at hl
     rw [hl, List.length_append, pre_length]
     have ho : (ownE ([] ++ lab) rs).length <= 1 := by unfold ownE; split <;> simp
     omega
theorem leftL_ent : ∀ (l : List Nd) (n d : Int), 0 <= n -> 0 < leftL l n d -> ((entL l).length : Int) <= n - leftL l n d
 | [], n, d, h0, h => by rw [leftL, entL]; simp
 | t :: r, n, d, h0, h => by
   rw [leftL] at h ⊢
   split at h
   · rename_i hn
     rw [if_pos hn]
     have hle := leftT_le t n d h0
     have hpos : 0 < leftT t n d := by
       have := (leftL_le r (leftT t n d) d hle.1).2; omega
     have h1 := leftT_ent t n d h0 hpos
     have h2 := leftL_ent r (leftT t n d) d hle.1 h
     rw [entL, List.length_append]
     omega
   · omega
end
theorem chgP_len {a b : Nd} (ha : (entL a.kids).length < 1000000000) (hb : (entL b.kids).length < 1000000000) : (chgP a b).length < 4294967296 := by
 unfold chgP
 split
 · have h1 : (chgT a b).length <= (S2 a b).length := List.length_filter_le _ _
   have h2 : (S2 a b).length <= (entP a).length + (entP b).length + 0 + 1 := sidesF_len _ _ _ _
   have := entP_len a ha; have := entP_len b hb
   omega
 · simp
end Go.Proofs.YtgaabjmbnomimaaGreatDoor
namespace Go.Proofs.YtgaabjmbnomimaaGreatDoor
open Go Go.Ev
def dE (x : List C) : Ent := ((x.headD .pnil).st, toRows (x.tail.headD .pnil).xs)
def isE (x : List C) : Bool := shOk [.str, .sl 5] x && isRows (x.tail.headD .pnil).xs
def isEs (xs : LLC) : Bool := xs.all isE
def toEs (xs : LLC) : List Ent := xs.map dE
theorem dE_ee (e : Ent) : dE (ee e) = e := by unfold dE; rw [ee_p, ee_r, toRows_rows]
theorem isE_ee (e : Ent) : isE (ee e) = true := by unfold isE; rw [ee_ok, ee_r, isRows_rows]; rfl
theorem isE_of {x : List C} (h : isE x = true) : x = ee (dE x) := by
 simp only [isE, Bool.and_eq_true] at h
 have h4 := shape_ok h.1
 have : ee (dE x) = Go.Ev.shape [.str, .sl 5] x := by
   show [C.str (x.headD .pnil).st, C.sl 5 none false (rows (toRows (x.tail.headD .pnil).xs))] = _
   rw [<- rows_of h.2]; rfl
 rw [this]; exact h4.symm
theorem ents_ex {xs : List (List C)} (h : isEs xs = true) : ∃ l, xs = ents l := by
 refine ⟨toEs xs, ?_⟩
 unfold isEs at h
 rw [List.all_eq_true] at h
 unfold ents toEs
 rw [List.map_map]
 conv => lhs; rw [<- List.map_id xs]
 exact List.map_congr_left fun x hx => isE_of (h x hx)
theorem isEs_ents (l : List Ent) : isEs (ents l) = true := by simp [isEs, ents, isE_ee]
theorem toEs_ents (l : List Ent) : toEs (ents l) = l := by simp [toEs, ents, dE_ee, Function.comp_def]
def IsN (d : Nat) (l : List Ent) (n : Int) (t : Nd) : Prop := ∃ q m, okT t m = true /\ q.length + m <= 24 /\ depT t < d /\ n = (q.length : Nat) /\ l = pre' q (entT t)
def IsK (d : Nat) (l : List Ent) (n : Int) (ks : List Nd) : Prop := ∃ q m, kidsOk ks m /\ q.length + m <= 24 /\ depL ks < d /\ n = (q.length : Nat) /\ l = pre' q (entL ks)
theorem IsN.uniq {d d' : Nat} {l : List Ent} {n : Int} {t u : Nd} (h : IsN d l n t) (k : IsN d' l n u) : t = u := by
 obtain ⟨q, m, h1, h2, _, h4, h5⟩ := h
 obtain ⟨q', m', k1, k2, _, k9004, k9005⟩ := k
 have e1 := nodeF_ent t q (sizeT t + sizeT u) m h1 h2 (by omega)
 have e2 := nodeF_ent u q' (sizeT t + sizeT u) m' k1 k2 (by omega)
 rw [<- h5] at e1
 rw [<- k9005] at e2
 have : q.length = q'.length := by omega
 rw [this] at e1
 exact e1.symm.trans e2
theorem IsK.uniq {d d' : Nat} {l : List Ent} {n : Int} {t u : List Nd} (h : IsK d l n t) (k : IsK d' l n u) : t = u := by
 obtain ⟨q, m, h1, h2, _, h4, h5⟩ := h
 obtain ⟨q', m', k1, k2, _, k9004, k9005⟩ := k
 have e1 := belowF_ent t q (sizeL t + sizeL u) m h1 h2 (by omega)
 have e2 := belowF_ent u q' (sizeL t + sizeL u) m' k1 k2 (by omega)
 rw [<- h5] at e1
 rw [<- k9005] at e2
 have : q.length = q'.length := by omega
 rw [this] at e1
 exact e1.symm.trans e2
open Classical in
noncomputable def hasN (d : Nat) (l : List Ent) (n : Int) : Bool := decide (∃ t, IsN d l n t)
open Classical in
noncomputable def hasK (d : Nat) (l : List Ent) (n : Int) : Bool := decide (∃ t, IsK d l n t)
open Classical in
noncomputable def theN (d : Nat) (l : List Ent) (n : Int) : Nd := if h : ∃ t, IsN d l n t then h.choose else default
open Classical in
noncomputable def theK (d : Nat) (l : List Ent) (n : Int) : List Nd := if h : ∃ t, IsK d l n t then h.choose else []
open Classical in
theorem theN_eq {d : Nat} {l : List Ent} {n : Int} {t : Nd} (h : IsN d l n t) : hasN d l n = true /\ theN d l n = t := by
 have hx : ∃ t, IsN d l n t := ⟨t, h⟩
 refine ⟨by unfold hasN; exact decide_eq_true hx, ?_⟩
 unfold theN
 rw [dif_pos hx]
 exact hx.choose_spec.uniq h
open Classical in
theorem theK_eq {d : Nat} {l : List Ent} {n : Int} {t : List Nd} (h : IsK d l n t) : hasK d l n = true /\ theK d l n = t := by
 have hx : ∃ t, IsK d l n t := ⟨t, h⟩
 refine ⟨by unfold hasK; exact decide_eq_true hx, ?_⟩
 unfold theK
 rw [dif_pos hx]
 exact hx.choose_spec.uniq h
open Classical in
theorem hasN_ex {d : Nat} {l : List Ent} {n : Int} (h : hasN d l n = true) : ∃ t, IsN d l n t := by
 unfold hasN at h; exact of_decide_eq_true h
open Classical in
theorem hasK_ex {d : Nat} {l : List Ent} {n : Int} (h : hasK d l n = true) : ∃ t, IsK d l n t := by
 unfold hasK at h; exact of_decide_eq_true h
end Go.Proofs.YtgaabjmbnomimaaGreatDoor
namespace Go.Proofs.YtgaabjmbnomimaaGreatDoor
open Go Go.Ev
-- cse
variable (dd : Nat)
noncomputable abbrev p201 : Par := par E sh (ctOf []) 201 2 0
abbrev s201_0 (nl : OBo) (tt : Bool) (xs : LLC) (n : Int) : Fr × Hp := ([(0, V.c (C.sl 2 nl tt xs)), (5, V.c (C.int IntKind.i64 n))], [])
noncomputable abbrev b201_0 : Code := loopAt (codeOf E (201)) 0
abbrev x201_0x0 (n : Int) : Ex × Fr × Hp := (Ex.ret, [(4, V.c (C.int IntKind.i64 n))], [])
abbrev s201_0_0 (nl : OBo) (tt : Bool) (xs : LLC) (n : Int) (i6 : Int) : Fr × Hp := ([(0, V.c (C.sl 2 nl tt xs)), (5, V.c (C.int IntKind.i64 n)), (6, V.c (C.int IntKind.i64 i6))], [])
noncomputable abbrev b201_0_0 : Code := loopAt b201_0 0
abbrev x201_0_0x0 (n : Int) : Ex × Fr × Hp := (Ex.ret, [(4, V.c (C.int IntKind.i64 n))], [])
abbrev x201_0_0x1 (nl : OBo) (tt : Bool) (xs : LLC) (n : Int) (i6 : Int) : Ex × Fr × Hp := (Ex.exit 2, [(0, V.c (C.sl 2 nl tt xs)), (5, V.c (C.int IntKind.i64 n)), (6, V.c (C.int IntKind.i64 i6)), (23, V.c (C.bool false))], [])
theorem t201_0_0 (nl : OBo) (tt : Bool) (xs : LLC) (n : Int) (i6 : Int) : p201.lts b201_0_0 (s201_0_0 nl tt xs n i6) = (Tr.br (decide (i6 < (↑xs.length : Int))) (Tr.chk (decide (0 <= i6)) (Tr.chk true (Tr.chk (decide (i6.toNat < xs.length)) (Tr.chk (shOk [Sk.str, Sk.sl 5] (xs.getD i6.toNat [])) (Tr.br (decide ((↑((xs.getD i6.toNat []).headD C.pnil).st.length : Int) <= n)) (Tr.leaf (R.x (x201_0_0x0 n))) (Tr.chk (decide (0 <= i6)) (Tr.chk true (Tr.chk (decide (i6.toNat < xs.length)) (Tr.chk (shOk [Sk.str, Sk.sl 5] (xs.getD i6.toNat [])) (Tr.chk (decide (0 <= n)) (Tr.chk (decide (n.toNat < ((xs.getD i6.toNat []).headD C.pnil).st.length)) (Tr.chk true (Tr.chk true (Tr.chk (decide (Int.toNat 0 < xs.length)) (Tr.chk (shOk [Sk.str, Sk.sl 5] (xs.getD (Int.toNat 0) [])) (Tr.chk (decide (0 <= n)) (Tr.chk (decide (n.toNat < ((xs.getD (Int.toNat 0) []).headD C.pnil).st.length)) (Tr.br ((↑(((xs.getD i6.toNat []).headD C.pnil).st.getD n.toNat 0).toNat : Int) != (↑(((xs.getD (Int.toNat 0) []).headD C.pnil).st.getD n.toNat 0).toNat : Int)) (Tr.leaf (R.x (x201_0_0x0 n))) (Tr.leaf (R.s (s201_0_0 nl tt xs n (IntKind.i64.wrap (i6 + 1))))))))))))))))))))))) (Tr.leaf (R.x (x201_0_0x1 nl tt xs n i6)))) := by kernel_rfl
theorem k201_0_0x0 (n : Int) : p201.lkx b201_0 0 (x201_0_0x0 n) = (Tr.leaf (R.x (x201_0x0 n))) := by kernel_rfl
theorem k201_0_0x1 (nl : OBo) (tt : Bool) (xs : LLC) (n : Int) (i6 : Int) : p201.lkx b201_0 0 (x201_0_0x1 nl tt xs n i6) = (Tr.leaf (R.s (s201_0 nl tt xs (IntKind.i64.wrap (n + 1))))) := by kernel_rfl
theorem t201_0 (nl : OBo) (tt : Bool) (xs : LLC) (n : Int) : p201.lts b201_0 (s201_0 nl tt xs n) = (Tr.chk true (Tr.chk true (Tr.chk (decide (Int.toNat 0 < xs.length)) (Tr.chk (shOk [Sk.str, Sk.sl 5] (xs.getD (Int.toNat 0) [])) (Tr.br (decide ((↑((xs.getD (Int.toNat 0) []).headD C.pnil).st.length : Int) <= n)) (Tr.leaf (R.x (x201_0x0 n))) (Tr.br (decide (24 <= n)) (Tr.leaf (R.x (x201_0x0 n))) (Tr.ls 0 (s201_0_0 nl tt xs n (0))))))))) := by kernel_rfl
theorem k201_0x0 (n : Int) : p201.fkx 0 (x201_0x0 n) = (Tr.leaf (R.out [V.c (C.int IntKind.i64 n)] [])) := by kernel_rfl
theorem t201 (nl : OBo) (tt : Bool) (xs : LLC) (n : Int) : p201.ft ([V.c (C.sl 2 nl tt xs), V.i n]) ([]) = (Tr.ls 0 (s201_0 nl tt xs n)) := by kernel_rfl
def s201 : CSpec := fun a h => match a, h with
 | [.c (.sl 2 nl tt xs), .c (.int .i64 n)], [] => some ([isEs xs, decide (xs ≠ []), decide (xs.length < 4294967296), decide (0 <= n), decide (n <= 24)], [V.i ((commonL (toEs xs) n.toNat : Nat) : Int)], [])
 | _, _ => none
noncomputable def s133 : CSpec := fun a h => match a, h with
 | [.c (.sl 2 nl tt xs), .c (.int .i64 n)], [] => some ([isEs xs, decide (xs.length < 4294967295), hasK dd (toEs xs) n], [.c (.sl 3 none false (encL (theK dd (toEs xs) n)))], [])
 | _, _ => none
noncomputable abbrev p175 : Par := par E sh (ctOf [(201, s201), (133, s133 dd)]) 175 2 0
theorem t175 (nl : OBo) (tt : Bool) (xs : LLC) (n : Int) : (p175 dd).ft ([V.c (C.sl 2 nl tt xs), V.i n]) ([]) = (Tr.chk (isEs xs) (Tr.chk (decide (xs ≠ [])) (Tr.chk (decide (xs.length < 4294967296)) (Tr.chk (decide (0 <= n)) (Tr.chk (decide (n <= 24)) (Tr.chk true (Tr.chk true (Tr.chk (decide (Int.toNat 0 < xs.length)) (Tr.chk (shOk [Sk.str, Sk.sl 5] (xs.getD (Int.toNat 0) [])) (Tr.chk (decide (0 <= n)) (Tr.chk true (Tr.chk (decide (n.toNat <= (↑(commonL (toEs xs) n.toNat) : Int).toNat)) (Tr.chk (decide ((↑(commonL (toEs xs) n.toNat) : Int).toNat <= ((xs.getD (Int.toNat 0) []).headD C.pnil).st.length)) (Tr.chk true (Tr.chk true (Tr.chk (decide (Int.toNat 0 < xs.length)) (Tr.chk (shOk [Sk.str, Sk.sl 5] (xs.getD (Int.toNat 0) [])) (Tr.br ((↑((xs.getD (Int.toNat 0) []).headD C.pnil).st.length : Int) == (↑(commonL (toEs xs) n.toNat) : Int)) (Tr.chk true (Tr.chk true (Tr.chk (decide (Int.toNat 0 < xs.length)) (Tr.chk (shOk [Sk.str, Sk.sl 5] (xs.getD (Int.toNat 0) [])) (Tr.chk true (Tr.chk (decide (Int.toNat 1 <= xs.length)) (Tr.chk (decide (xs.length <= xs.length)) (Tr.chk true (Tr.chk (isEs (List.drop (Int.toNat 1) (List.take xs.length xs))) (Tr.chk (decide ((List.drop (Int.toNat 1) (List.take xs.length xs)).length < 4294967295)) (Tr.chk (hasK dd (toEs (List.drop (Int.toNat 1) (List.take xs.length xs))) (↑(commonL (toEs xs) n.toNat) : Int)) (Tr.leaf (R.out [V.agg [V.c (C.str (List.drop n.toNat (List.take (↑(commonL (toEs xs) n.toNat) : Int).toNat ((xs.getD (Int.toNat 0) []).headD C.pnil).st))), V.c (C.sl 5 none false ((xs.getD (Int.toNat 0) []).tail.headD C.pnil).xs), V.c (C.sl 3 none false (encL (theK dd (toEs (List.drop (Int.toNat 1) (List.take xs.length xs))) (↑(commonL (toEs xs) n.toNat) : Int))))]] []))))))))))))) (Tr.chk (isEs xs) (Tr.chk (decide (xs.length < 4294967295)) (Tr.chk (hasK dd (toEs xs) (↑(commonL (toEs xs) n.toNat) : Int)) (Tr.leaf (R.out [V.agg [V.c (C.str (List.drop n.toNat (List.take (↑(commonL (toEs xs) n.toNat) : Int).toNat ((xs.getD (Int.toNat 0) []).headD C.pnil).st))), V.c (C.sl 5 none false []), V.c (C.sl 3 none false (encL (theK dd (toEs xs) (↑(commonL (toEs xs) n.toNat) : Int))))]] []))))))))))))))))))))))) := by kernel_rfl
noncomputable def s175 : CSpec := fun a h => match a, h with
 | [.c (.sl 2 nl tt xs), .c (.int .i64 n)], [] => some ([isEs xs, decide (xs.length < 4294967295), hasN (dd + 1) (toEs xs) n], [VT (theN (dd + 1) (toEs xs) n)], [])
 | _, _ => none
noncomputable abbrev p133 : Par := par E sh (ctOf [(175, s175 dd)]) 133 2 0
abbrev s133_0 (nl0 : OBo) (t0 : Bool) (xs0 : LLC) (i1 : Int) (n5 : Nat) (i6 : Int) (ys0 : LLC) : Fr × Hp := ([(0, V.c (C.sl 2 nl0 t0 xs0)), (1, V.c (C.int IntKind.i64 i1)), (5, V.buf 0 0 0 n5), (6, V.c (C.int IntKind.i64 i6))], [O.mem 3 0 ys0])
noncomputable abbrev b133_0 : Code := loopAt (codeOf E (133)) 0
abbrev s133_0_0 (nl0_1 : OBo) (t0_1 : Bool) (xs0_1 : LLC) (i1_1 : Int) (n5_1 : Nat) (i6_1 : Int) (i7 : Int) (ys0_1 : LLC) : Fr × Hp := ([(0, V.c (C.sl 2 nl0_1 t0_1 xs0_1)), (1, V.c (C.int IntKind.i64 i1_1)), (5, V.buf 0 0 0 n5_1), (6, V.c (C.int IntKind.i64 i6_1)), (7, V.c (C.int IntKind.i64 i7))], [O.mem 3 0 ys0_1])
noncomputable abbrev b133_0_0 : Code := loopAt b133_0 0
abbrev x133_0_0x0 (nl0_1 : OBo) (t0_1 : Bool) (xs0_1 : LLC) (i1_1 : Int) (n5_1 : Nat) (i6_1 : Int) (i7 : Int) (ys0_1 : LLC) : Ex × Fr × Hp := (Ex.exit 2, [(0, V.c (C.sl 2 nl0_1 t0_1 xs0_1)), (1, V.c (C.int IntKind.i64 i1_1)), (5, V.buf 0 0 0 n5_1), (6, V.c (C.int IntKind.i64 i6_1)), (7, V.c (C.int IntKind.i64 i7)), (33, V.c (C.bool false))], [O.mem 3 0 ys0_1])
abbrev x133_0x0 (nl0 : OBo) (t0 : Bool) (xs0 : LLC) (i1 : Int) (n5 : Nat) (i6 : Int) (ys0 : LLC) : Ex × Fr × Hp := (Ex.exit 0, [(0, V.c (C.sl 2 nl0 t0 xs0)), (1, V.c (C.int IntKind.i64 i1)), (5, V.buf 0 0 0 n5), (6, V.c (C.int IntKind.i64 i6)), (11, V.c (C.bool false))], [O.mem 3 0 ys0])
theorem t133_0_0 (nl0_1 : OBo) (t0_1 : Bool) (xs0_1 : LLC) (i1_1 : Int) (n5_1 : Nat) (i6_1 : Int) (i7 : Int) (ys0_1 : LLC) : (p133 dd).lts b133_0_0 (s133_0_0 nl0_1 t0_1 xs0_1 i1_1 n5_1 i6_1 i7 ys0_1) = (Tr.br (decide (i7 < (↑xs0_1.length : Int))) (Tr.chk (decide (0 <= i7)) (Tr.chk true (Tr.chk (decide (i7.toNat < xs0_1.length)) (Tr.chk (shOk [Sk.str, Sk.sl 5] (xs0_1.getD i7.toNat [])) (Tr.chk (decide (0 <= i1_1)) (Tr.chk (decide (i1_1.toNat < ((xs0_1.getD i7.toNat []).headD C.pnil).st.length)) (Tr.chk (decide (0 <= i6_1)) (Tr.chk true (Tr.chk (decide (i6_1.toNat < xs0_1.length)) (Tr.chk (shOk [Sk.str, Sk.sl 5] (xs0_1.getD i6_1.toNat [])) (Tr.chk (decide (0 <= i1_1)) (Tr.chk (decide (i1_1.toNat < ((xs0_1.getD i6_1.toNat []).headD C.pnil).st.length)) (Tr.br ((↑(((xs0_1.getD i7.toNat []).headD C.pnil).st.getD i1_1.toNat 0).toNat : Int) == (↑(((xs0_1.getD i6_1.toNat []).headD C.pnil).st.getD i1_1.toNat 0).toNat : Int)) (Tr.leaf (R.s (s133_0_0 nl0_1 t0_1 xs0_1 i1_1 n5_1 i6_1 (IntKind.i64.wrap (i7 + 1)) ys0_1))) (Tr.leaf (R.x (x133_0_0x0 nl0_1 t0_1 xs0_1 i1_1 n5_1 i6_1 i7 ys0_1)))))))))))))))) (Tr.leaf (R.x (x133_0_0x0 nl0_1 t0_1 xs0_1 i1_1 n5_1 i6_1 i7 ys0_1)))) := by kernel_rfl
theorem k133_0_0x0 (dd : Nat) (nl0_1 : OBo) (t0_1 : Bool) (xs0_1 : LLC) (i1_1 : Int) (n5_1 : Nat) (i6_1 : Int) (i7 : Int) (ys0_1 : LLC) : (p133 dd).lkx b133_0 0 (x133_0_0x0 nl0_1 t0_1 xs0_1 i1_1 n5_1 i6_1 i7 ys0_1) = (Tr.chk (decide (0 <= i6_1)) (Tr.chk (decide (0 <= i7)) (Tr.chk (decide (i6_1.toNat <= i7.toNat)) (Tr.chk (decide (i7.toNat <= xs0_1.length)) (Tr.chk true (Tr.chk (isEs (List.drop i6_1.toNat (List.take i7.toNat xs0_1))) (Tr.chk (decide ((List.drop i6_1.toNat (List.take i7.toNat xs0_1)).length < 4294967295)) (Tr.chk (hasN (dd + 1) (toEs (List.drop i6_1.toNat (List.take i7.toNat xs0_1))) i1_1) (Tr.chk true (Tr.chk true (Tr.chk (decide (n5_1 + 1 < 4294967296)) (Tr.chk true (Tr.leaf (R.s (s133_0 nl0_1 t0_1 xs0_1 i1_1 (n5_1 + 1) i7 (List.take n5_1 ys0_1 ++ [[C.str (theN (dd + 1) (toEs (List.drop i6_1.toNat (List.take i7.toNat xs0_1))) i1_1).lab, C.sl 5 none false (rows (theN (dd + 1) (toEs (List.drop i6_1.toNat (List.take i7.toNat xs0_1))) i1_1).rows), C.sl 3 none false (encL (theN (dd + 1) (toEs (List.drop i6_1.toNat (List.take i7.toNat xs0_1))) i1_1).kids)]])))))))))))))))) := by kernel_rfl
theorem t133_0 (nl0 : OBo) (t0 : Bool) (xs0 : LLC) (i1 : Int) (n5 : Nat) (i6 : Int) (ys0 : LLC) : (p133 dd).lts b133_0 (s133_0 nl0 t0 xs0 i1 n5 i6 ys0) = (Tr.br (decide (i6 < (↑xs0.length : Int))) (Tr.ls 0 (s133_0_0 nl0 t0 xs0 i1 n5 i6 i6 ys0)) (Tr.leaf (R.x (x133_0x0 nl0 t0 xs0 i1 n5 i6 ys0)))) := by kernel_rfl
theorem k133_0x0 (dd : Nat) (nl0 : OBo) (t0 : Bool) (xs0 : LLC) (i1 : Int) (n5 : Nat) (i6 : Int) (ys0 : LLC) : (p133 dd).fkx 0 (x133_0x0 nl0 t0 xs0 i1 n5 i6 ys0) = (Tr.leaf (R.out [V.c (C.sl 3 none false (List.take n5 ys0))] [])) := by kernel_rfl
theorem t133 (nl : OBo) (tt : Bool) (xs : LLC) (n : Int) : (p133 dd).ft ([V.c (C.sl 2 nl tt xs), V.i n]) ([]) = (Tr.ls 0 (s133_0 nl tt xs n (0) (0) ([]))) := by kernel_rfl
noncomputable abbrev p73 : Par := par E sh (ctOf [(133, s133 dd)]) 73 1 0
theorem t73 (nl : OBo) (tt : Bool) (xs : LLC) : (p73 dd).ft ([V.c (C.sl 2 nl tt xs)]) ([]) = (Tr.chk (isEs xs) (Tr.chk (decide (xs.length < 4294967295)) (Tr.chk (hasK dd (toEs xs) 0) (Tr.leaf (R.out [V.agg [V.c (C.str []), V.c (C.sl 5 none false []), V.c (C.sl 3 none false (encL (theK dd (toEs xs) 0)))]] []))))) := by kernel_rfl
end Go.Proofs.YtgaabjmbnomimaaGreatDoor
namespace Go.Proofs.YtgaabjmbnomimaaGreatDoor
open Go Go.Ev
def likeB (h : Ent) (n : Nat) (e : Ent) : Bool := decide (n < e.1.length) && decide (at0 e.1 n = at0 h.1 n)
theorem byte_ne (a b : UInt8) : (((a.toNat : Nat) : Int) != ((b.toNat : Nat) : Int)) = !decide (a = b) := by
 by_cases h : a = b
 · simp [h]
 · have : a.toNat ≠ b.toNat := fun e => h (UInt8.toNat_inj.1 e)
   have h2 : ((a.toNat : Nat) : Int) ≠ ((b.toNat : Nat) : Int) := by omega
   simp [h, h2]
theorem at0_def (p : Bys) (n : Nat) : p.getD n 0 = at0 p n := rfl
theorem inner178 (nl : OBo) (tt : Bool) (h : Ent) (r : List Ent) (n : Nat) (hl : (h :: r).length < 4294967296) (hn : n < 24) (hh : n < h.1.length) :
   p201.ld b201_0 (Tr.ls 0 (s201_0_0 nl tt (ents (h :: r)) n 0)) = if ((h :: r).all (likeB h n)) = true then some (R.s (s201_0 nl tt (ents (h :: r)) ((n + 1 : Nat) : Int))) else some (R.x (x201_0x0 n)) := by
 have h0 : (ents (h :: r)).getD (Int.toNat 0) [] = ee h := rfl
 have h00 : Int.toNat 0 < (h :: r).length := Nat.succ_pos _
 refine ld_post (p := p201) ctOf_nil (by kernel_rfl) (by split <;> rfl) (list_post (p := p201) ctOf_nil (b := b201_0_0) (h :: r).length (fun k (_ : Unit) => s201_0_0 nl tt (ents (h :: r)) n k) (fun k _ => ((h :: r).drop k).all (likeB h n) = (h :: r).all (likeB h n)) _ ?_ ?_ 0 (Nat.zero_le _) () rfl)
 · intro k _ hk hi
   rw [List.drop_eq_getElem_cons hk, List.all_cons] at hi
   have go : p201.ld b201_0_0 (p201.lts b201_0_0 (s201_0_0 nl tt (ents (h :: r)) n k)) = if likeB h n (h :: r)[k] = true then some (R.s (s201_0_0 nl tt (ents (h :: r)) n ((k + 1 : Nat) : Int))) else some (R.x (x201_0_0x0 n)) := by
     rw [t201_0_0]
     unfold likeB
     simp only [ld_br, ld_chk', ld_leaf, fd_br, fd_chk', fd_leaf, decide_true, decide_eq_true_eq, if_true, Int.toNat_natCast, Int.natCast_nonneg, Int.ofNat_lt, Int.ofNat_le, Bool.false_eq_true, if_false, bne_iff_ne, beq_iff_eq, ne_eq, not_true_eq_false, not_false_eq_true, Bool.not_eq_true', decide_eq_false_iff_not, reduceCtorEq, rows_length, er_ok, er_ok', dr_er, isRows_rows, toRows_rows, rows_take, rows_drop, rows_append, ints_length, isInts_ints, toInts_ints, ei_i, ei_ok, mk_headD, ints_take, ints_drop, ints_append, ints_snoc, ints_snoc', List.take_length, Nat.zero_add, Nat.le_refl, er_a, er_b, er_k, er_n, er_s, er_v, ents_length, hk, ents_getD hk, h0, h00, ee_ok, ee_p, hh, byte_ne, at0_def, wrap_succ (show k < 9223372036854775807 by omega)]
     by_cases c : n < (h :: r)[k].1.length
     · have : ¬ (((h :: r)[k].1.length : Nat) <= n) := by omega
       simp only [c, this, decide_true, if_true, if_false, Bool.true_and, decide_eq_true_eq]
       by_cases d : at0 (h :: r)[k].1 n = at0 h.1 n
       · simp [d]
       · simp [d]
     · have : ((h :: r)[k].1.length : Nat) <= n := by omega
       simp [c, this]
   cases c : likeB h n (h :: r)[k] with
   | true =>
     rw [c, if_pos rfl] at go
     rw [c, Bool.true_and] at hi
     exact .inl ⟨(), hi, go⟩
   | false =>
     rw [c, if_neg (by simp)] at go
     rw [c, Bool.false_and] at hi
     refine .inr ⟨x201_0_0x0 n, by simp, ?_, go⟩
     rw [k201_0_0x0, ld_leaf, <- hi]; rfl
 · intro _ hi
   rw [List.drop_length, List.all_nil] at hi
   refine ⟨x201_0_0x1 nl tt (ents (h :: r)) n (h :: r).length, by simp, ?_, ?_⟩
   · rw [k201_0_0x1, ld_leaf, <- hi, wrap_succ (show n < 9223372036854775807 by omega)]; rfl
   · rw [t201_0_0]; simp only [ld_br, ld_chk', ld_leaf, fd_br, fd_chk', fd_leaf, decide_true, decide_eq_true_eq, if_true, Int.toNat_natCast, Int.natCast_nonneg, Int.ofNat_lt, Int.ofNat_le, Bool.false_eq_true, if_false, bne_iff_ne, beq_iff_eq, ne_eq, not_true_eq_false, not_false_eq_true, Bool.not_eq_true', decide_eq_false_iff_not, reduceCtorEq, rows_length, er_ok, er_ok', dr_er, isRows_rows, toRows_rows, rows_take, rows_drop, rows_append, ints_length, isInts_ints, toInts_ints, ei_i, ei_ok, mk_headD, ints_take, ints_drop, ints_append, ints_snoc, ints_snoc', List.take_length, Nat.zero_add, Nat.le_refl, er_a, er_b, er_k, er_n, er_s, er_v, ents_length, Int.lt_irrefl]
theorem commonF_cons (h : Ent) (r : List Ent) (f n : Nat) : commonF (h :: r) (f + 1) n = if n >= h.1.length \/ n >= 24 then n else if ((h :: r).all (likeB h n)) = true then commonF (h :: r) f (n + 1) else n := rfl
theorem f201 (nl : OBo) (tt : Bool) (l : List Ent) (n : Nat) (hne : l ≠ []) (hl : l.length < 4294967296) (hn : n <= 24) : call E 201 [.c (.sl 2 nl tt (ents l)), V.i n] [] = some ([V.i (commonL l n : Nat)], []) := by
 refine call_of (E := E) (sh := sh) (ct := ctOf []) (na := 2) (m := 0) ctOf_nil rfl rfl rfl rfl rfl rfl ?_
 obtain ⟨h, r, rfl⟩ : ∃ h r, l = h :: r := by cases l with | nil => exact absurd rfl hne | cons h r => exact ⟨h, r, rfl⟩
 rw [t201]
 have h0 : (ents (h :: r)).getD (Int.toNat 0) [] = ee h := rfl
 have h00 : Int.toNat 0 < (h :: r).length := Nat.succ_pos _
 refine fd_post (p := p201) ctOf_nil (by kernel_rfl) rfl (loops_post (p := p201) ctOf_nil (b := b201_0) (ι := Nat) (fun k => s201_0 nl tt (ents (h :: r)) k) (fun k => k <= 24 /\ ∃ f, 25 <= f + k /\ commonF (h :: r) f k = commonL (h :: r) n) (fun k => 25 - k) _ ?_ n ⟨hn, 25, by omega, rfl⟩)
 rintro k ⟨hk, f, hf, hc⟩
 obtain ⟨f, rfl⟩ : ∃ g, f = g + 1 := ⟨f - 1, by omega⟩
 rw [commonF_cons] at hc
 have stop : commonL (h :: r) n = k -> ∀ X, p201.ld b201_0 X = some (R.x (x201_0x0 k)) -> ∃ x : Ex × Fr × Hp, x.1 ≠ .nrm /\ p201.fd (p201.fkx 0 x) = some (.out [V.i (commonL (h :: r) n : Nat)] []) /\ p201.ld b201_0 X = some (R.x x) := fun e X hX =>
   ⟨x201_0x0 k, by simp, by rw [k201_0x0, fd_leaf, e], hX⟩
 by_cases c1 : k >= h.1.length \/ k >= 24
 · rw [if_pos c1] at hc
   refine .inr (stop hc.symm _ ?_)
   rw [t201_0]
   simp only [ld_br, ld_chk', ld_leaf, fd_br, fd_chk', fd_leaf, decide_true, decide_eq_true_eq, if_true, Int.toNat_natCast, Int.natCast_nonneg, Int.ofNat_lt, Int.ofNat_le, Bool.false_eq_true, if_false, bne_iff_ne, beq_iff_eq, ne_eq, not_true_eq_false, not_false_eq_true, Bool.not_eq_true', decide_eq_false_iff_not, reduceCtorEq, rows_length, er_ok, er_ok', dr_er, isRows_rows, toRows_rows, rows_take, rows_drop, rows_append, ints_length, isInts_ints, toInts_ints, ei_i, ei_ok, mk_headD, ints_take, ints_drop, ints_append, ints_snoc, ints_snoc', List.take_length, Nat.zero_add, Nat.le_refl, er_a, er_b, er_k, er_n, er_s, er_v, ents_length, h0, h00, ee_ok, ee_p]
   by_cases d : h.1.length <= k
   · rw [if_pos (by omega)]
   · rw [if_neg (by omega), if_pos (by omega)]
 · rw [if_neg c1] at hc
   have go : p201.ld b201_0 (p201.lts b201_0 (s201_0 nl tt (ents (h :: r)) k)) = p201.ld b201_0 (Tr.ls 0 (s201_0_0 nl tt (ents (h :: r)) k 0)) := by
     rw [t201_0]
     simp only [ld_br, ld_chk', decide_eq_true_eq, if_true, ents_length, h0, h00, ee_ok, ee_p, decide_true]
     rw [if_neg (by omega), if_neg (by omega)]
   rw [inner178 nl tt h r k hl (by omega) (by omega)] at go
   by_cases c2 : ((h :: r).all (likeB h k)) = true
   · rw [if_pos c2] at hc go
     exact .inl ⟨k + 1, ⟨by omega, f, by omega, hc⟩, by omega, go⟩
   · rw [if_neg c2] at hc go
     refine .inr ⟨x201_0x0 k, by simp, by rw [k201_0x0, fd_leaf, <- hc], go⟩
theorem s201_ok : CSpecOk E 201 s201 := by
 intro a h cs vals h' he hc
 unfold s201 at he
 split at he <;> simp only [Option.some.injEq, Prod.mk.injEq, reduceCtorEq] at he
 rename_i nl tt xs n
 obtain ⟨rfl, rfl, rfl⟩ := he
 simp only [allT, Bool.and_true, Bool.and_eq_true, decide_eq_true_eq] at hc
 obtain ⟨h1, h2, h3, h4, h5⟩ := hc
 obtain ⟨l, rfl⟩ := ents_ex h1
 rw [ents_length] at h3
 rw [toEs_ents]
 have := f201 nl tt l n.toNat (fun e => h2 (by rw [e]; rfl)) h3 (by omega)
 rw [Int.toNat_of_nonneg h4] at this
 exact this
theorem node_facts (lab : Bys) (rs : List Row) (ks : List Nd) (q : Bys) (n : Nat) (h : okT (.node lab rs ks) n = true) (hq : q.length + n <= 24) :
   commonL (pre' q (entT (.node lab rs ks))) q.length = (q ++ lab).length /\ pre' q (entT (.node lab rs ks)) ≠ [] /\ (∃ s0, ((pre' q (entT (.node lab rs ks))).headD default).1 = (q ++ lab) ++ s0) ∧
   (rs = [] -> ((pre' q (entT (.node lab rs ks))).headD default).1.length ≠ (q ++ lab).length /\ pre' q (entT (.node lab rs ks)) = pre' (q ++ lab) (entL ks)) ∧
   (rs ≠ [] -> pre' q (entT (.node lab rs ks)) = (q ++ lab, rs) :: pre' (q ++ lab) (entL ks)) := by
 obtain ⟨g1, g2, g9003, g9004, g9005⟩ := okT_iff.1 h
 simp only [Nd.rows_node, Nd.kids_node, Nd.lab_node] at g1 g2 g9003 g9004 g9005
 have hl : pre' q (entT (.node lab rs ks)) = pre' (q ++ lab) (ownB rs ++ entL ks) := by rw [entT_pre']; rfl
 have hne : pre' q (entT (.node lab rs ks)) ≠ [] := by
   have := entT_some _ _ h
   simpa [pre'] using this
 have hlen : ∀ e ∈ pre' q (entT (.node lab rs ks)), ∃ s, e.1 = (q ++ lab) ++ s := by
   rw [hl]
   intro e he
   simp only [pre', List.mem_map] at he
   obtain ⟨x, _, rfl⟩ := he
   exact ⟨x.1, rfl⟩
 have hd : ((pre' q (entT (.node lab rs ks))).headD default) ∈ pre' q (entT (.node lab rs ks)) := by
   cases hx : pre' q (entT (.node lab rs ks)) with | nil => exact absurd hx hne | cons a r => simp
 obtain ⟨s0, hs0⟩ := hlen _ hd
 have hkl : ∀ {k : Nd} {r : List Nd}, ks = k :: r -> ∃ x xs, entL ks = x :: xs /\ hdB x.1 = hdB k.lab /\ x.1 ≠ [] := fun {k r} hk => by
   have h1 := entT_some k _ (g9005.1 k (by rw [hk]; simp))
   cases hx : entT k with
   | nil => exact absurd hx h1
   | cons x xs =>
     obtain ⟨s, hs⟩ := entT_pre k x (by rw [hx]; simp)
     have hkn := (okT_iff.1 (g9005.1 k (by rw [hk]; simp))).1
     exact ⟨x, xs ++ entL r, by rw [hk, entL, hx]; rfl, by rw [hs, hdB_app hkn], by rw [hs]; simp [hkn]⟩
 have hrs : rs = [] -> ∃ k1 k2 r, ks = k1 :: k2 :: r := fun c => by
   have h2 : 2 <= ks.length := by rcases g9004 with g | g; exact absurd c g; exact g
   match ks, h2 with
   | k1 :: k2 :: r, _ => exact ⟨k1, k2, r, rfl⟩
 have hcom : commonL (pre' q (entT (.node lab rs ks))) q.length = (q ++ lab).length := by
   refine commonF_go _ _ (fun e he => ?_) (by simp; omega) hne (fun n hn e he => ?_) ?_ 25 q.length (by simp) (by simp; omega)
   · obtain ⟨s, hs⟩ := hlen e he
     rw [hs]; simp
   · obtain ⟨s, hs⟩ := hlen e he
     rw [hs, hs0, at0_pre hn, at0_pre hn]
   · by_cases c : rs = []
     · obtain ⟨k1, k2, r, hk⟩ := hrs c
       obtain ⟨x, xs, e1, e2, e3⟩ := hkl hk
       have h3 := entT_some k2 _ (g9005.1 k2 (by rw [hk]; simp))
       cases hy : entT k2 with
       | nil => exact absurd hy h3
       | cons y ys =>
         obtain ⟨s, hs⟩ := entT_pre k2 y (by rw [hy]; simp)
         have hkn := (okT_iff.1 (g9005.1 k2 (by rw [hk]; simp))).1
         have hlt : hdB k1.lab < hdB k2.lab := by have := g9005.2; rw [hk, List.pairwise_cons] at this; exact this.1 k2 (by simp)
         refine .inr (.inr ⟨((q ++ lab) ++ y.1, y.2), ?_, .inr ?_⟩)
         · rw [hl]
           refine List.mem_map_of_mem (f := fun e : Ent => ((q ++ lab) ++ e.1, e.2)) ?_
           rw [List.mem_append]; right
           rw [hk]; simp [entL, hy]
         · have e0 : (pre' q (entT (.node lab rs ks))).headD default = ((q ++ lab) ++ x.1, x.2) := by
             rw [hl, c]
             simp [ownB, e1, pre']
           rw [e0]
           simp only
           rw [at0_app, at0_app]
           refine at0_ne ?_
           rw [e2, hs, hdB_app hkn]; omega
     · left
       rw [hl, ownB, if_neg c]
       simp [pre']
 refine ⟨hcom, hne, ⟨s0, hs0⟩, fun c => ?_, fun c => ?_⟩
 · obtain ⟨k1, k2, r, hk⟩ := hrs c
   obtain ⟨x, xs, e1, e2, e3⟩ := hkl hk
   have e0 : pre' q (entT (.node lab rs ks)) = pre' (q ++ lab) (entL ks) := by rw [hl, c]; rfl
   refine ⟨?_, e0⟩
   rw [e0, e1]
   simp only [pre', List.map_cons, List.headD_cons, List.length_append]
   have := List.length_pos_iff.2 e3
   omega
 · rw [hl, ownB, if_neg c]; simp [pre']
theorem f175 (dd : Nat) (ih : CSpecOk E 133 (s133 dd)) (nl : OBo) (tt : Bool) (l : List Ent) (n : Int) (t : Nd) (hl : l.length < 4294967295) (ht : IsN (dd + 1) l n t) :
   call E 175 [.c (.sl 2 nl tt (ents l)), V.i n] [] = some ([VT t], []) := by
 have hct : (ctOf [(201, s201), (133, s133 dd)]).ok E := ctOf_cons s201_ok (ctOf_cons ih ctOf_nil)
 refine call_of (E := E) (sh := sh) (ct := ctOf [(201, s201), (133, s133 dd)]) (na := 2) (m := 0) hct rfl rfl rfl rfl rfl rfl ?_
 show (p175 dd).fd ((p175 dd).ft _ _) = _
 obtain ⟨q, m, h1, h2, h3, rfl, rfl⟩ := ht
 obtain ⟨lab, rs, ks⟩ := t
 obtain ⟨a1, a2, ⟨s0, a3⟩, a4, a5⟩ := node_facts lab rs ks q m h1 h2
 have hk : kidsOk ks (m - lab.length) := (okT_iff.1 h1).2.2.2.2
 have hlm : lab.length <= m := (okT_iff.1 h1).2.1
 have hdk : depL ks < dd := by rw [depT_eq] at h3; simp only [Nd.kids_node] at h3; omega
 obtain ⟨b1, b2⟩ := theK_eq (d := dd) (l := pre' (q ++ lab) (entL ks)) (n := ((q ++ lab).length : Nat)) ⟨q ++ lab, m - lab.length, hk, by simp; omega, hdk, rfl, rfl⟩
 generalize hL : pre' q (entT (.node lab rs ks)) = L at *
 obtain ⟨h, r, rfl⟩ : ∃ h r, L = h :: r := by cases L with | nil => exact absurd rfl a2 | cons h r => exact ⟨h, r, rfl⟩
 have h0 : (ents (h :: r)).getD (Int.toNat 0) [] = ee h := rfl
 have h00 : Int.toNat 0 < (h :: r).length := Nat.succ_pos _
 have h01 : Int.toNat 1 <= (h :: r).length := Nat.succ_pos _
 have hne : ents (h :: r) ≠ [] := by simp [ents]
 have hl2 : (h :: r).length < 4294967296 := by omega
 have a3' : h.1 = (q ++ lab) ++ s0 := a3
 have hqn : (q.length : Int) <= 24 := by omega
 have hcl : q.length <= (q ++ lab).length := by simp
 have hch : (q ++ lab).length <= h.1.length := by rw [a3']; simp
 have htk : List.drop q.length (List.take (q ++ lab).length h.1) = lab := by rw [a3', List.take_left' rfl]; simp
 have hdr : List.drop (Int.toNat 1) (ents (h :: r)) = ents r := rfl
 rw [t175]
 by_cases c : rs = []
 · obtain ⟨c1, c2⟩ := a4 c
   have c1' : ((h.1.length : Int) == (((q ++ lab).length : Nat) : Int)) = false := by rw [beq_eq_false_iff_ne]; intro e; exact c1 (show h.1.length = (q ++ lab).length by omega)
   rw [<- c2] at b1 b2
   simp only [fd_br, fd_chk', fd_leaf, if_true, isEs_ents, toEs_ents, ents_length, hl, hl2, hne, ne_eq, not_false_eq_true, decide_true, Int.natCast_nonneg, hqn, Int.toNat_natCast, a1, h0, h00, ee_ok, ee_p, hcl, hch, c1', Bool.false_eq_true, if_false, b1, b2, htk]
   subst c; rfl
 · have c2 := a5 c
   obtain ⟨rfl, rfl⟩ : h = (q ++ lab, rs) /\ r = pre' (q ++ lab) (entL ks) := by simpa using c2
   have c1' : ((((q ++ lab, rs) : Ent).1.length : Int) == (((q ++ lab).length : Nat) : Int)) = true := by simp
   have hle : ∀ n : Nat, decide (n <= n) = true := fun n => by simp
   have hrl : (pre' (q ++ lab) (entL ks)).length < 4294967295 := by rw [List.length_cons] at hl; omega
   have htl : List.take (((q ++ lab, rs) : Ent) :: pre' (q ++ lab) (entL ks)).length (ents (((q ++ lab, rs) : Ent) :: pre' (q ++ lab) (entL ks))) = ents (((q ++ lab, rs) : Ent) :: pre' (q ++ lab) (entL ks)) := ents_take _ _ rfl
   simp only [fd_br, fd_chk', fd_leaf, if_true, isEs_ents, toEs_ents, ents_length, hl, hl2, hne, ne_eq, not_false_eq_true, decide_true, Int.natCast_nonneg, hqn, Int.toNat_natCast, a1, h0, h00, h01, ee_ok, ee_p, ee_r, hcl, hch, c1', b1, b2, htk, hle, htl, hdr, hrl]
   rfl
theorem s175_of (dd : Nat) (ih : CSpecOk E 133 (s133 dd)) : CSpecOk E 175 (s175 dd) := by
 intro a h cs vals h' he hc
 unfold s175 at he
 split at he <;> simp only [Option.some.injEq, Prod.mk.injEq, reduceCtorEq] at he
 rename_i nl tt xs n
 obtain ⟨rfl, rfl, rfl⟩ := he
 simp only [allT, Bool.and_true, Bool.and_eq_true, decide_eq_true_eq] at hc
 obtain ⟨h1, h2, h3⟩ := hc
 obtain ⟨l, rfl⟩ := ents_ex h1
 rw [ents_length] at h2
 rw [toEs_ents] at h3 ⊢
 obtain ⟨t, ht⟩ := hasN_ex h3
 rw [(theN_eq ht).2]
 exact f175 dd ih nl tt l n t h2 ht
abbrev posE (ks : List Nd) (j : Nat) : Nat := (entL (ks.take j)).length
theorem posE_succ {ks : List Nd} {j : Nat} (h : j < ks.length) : posE ks (j + 1) = posE ks j + (entT ks[j]).length := by
 unfold posE; rw [entL_take h, List.length_append]
theorem posE_le (ks : List Nd) (j : Nat) : posE ks j <= (entL ks).length := entL_take_le ks j
theorem entL_parts {ks : List Nd} {j : Nat} (h : j < ks.length) : entL ks = entL (ks.take j) ++ (entT ks[j] ++ entL (ks.drop (j + 1))) := by
 have := congrArg entL (List.take_append_drop (j + 1) ks).symm
 rw [entL_app, entL_take h, List.append_assoc] at this
 exact this
theorem pre'_len (q : Bys) (l : List Ent) : (pre' q l).length = l.length := List.length_map _
theorem entL_at {ks : List Nd} {j k : Nat} (h : j < ks.length) (hk : k < (entT ks[j]).length) (q : Bys) : (pre' q (entL ks))[posE ks j + k]? = some (q ++ (entT ks[j])[k].1, (entT ks[j])[k].2) := by
 rw [pre', List.getElem?_map, entL_parts h, List.getElem?_append_right (Nat.le_add_right _ _), Nat.add_sub_cancel_left, List.getElem?_append_left hk, List.getElem?_eq_getElem hk]
 rfl
theorem byte_eq (a b : UInt8) : (((a.toNat : Nat) : Int) == ((b.toNat : Nat) : Int)) = decide (a = b) := by
 have := byte_ne a b
 rw [bne] at this
 cases h : (((a.toNat : Nat) : Int) == ((b.toNat : Nat) : Int)) <;> rw [h] at this <;> simpa using this
theorem entry_at {ks : List Nd} {n j k : Nat} (hk : kidsOk ks n) (h : j < ks.length) (hl : k < (entT ks[j]).length) (q : Bys) : q.length < (q ++ (entT ks[j])[k].1).length /\ at0 (q ++ (entT ks[j])[k].1) q.length = at0 ks[j].lab 0 := by
 obtain ⟨s, hs⟩ := entT_pre ks[j] _ (List.getElem_mem hl)
 have hne := (okT_iff.1 (hk.1 _ (List.getElem_mem h))).1
 have hlp := List.length_pos_iff.2 hne
 rw [hs]
 refine ⟨by simp; omega, ?_⟩
 rw [at0_app]
 exact at0_hd (hdB_app hne)
theorem inner132 (dd : Nat) (hct : (ctOf [(175, s175 dd)]).ok E) (nl : OBo) (tt : Bool) {ks : List Nd} {n : Nat} (q : Bys) (hk : kidsOk ks n) (hq : q.length + n <= 24) (hd : depL ks < dd + 1) (hl : (entL ks).length < 4294967295) (hkl : ks.length < 4294967295) {j : Nat} (hj : j < ks.length) :
   (p133 dd).ld b133_0 (Tr.ls 0 (s133_0_0 nl tt (ents (pre' q (entL ks))) q.length j (posE ks j) (posE ks j) (encL (ks.take j)))) = some (R.s (s133_0 nl tt (ents (pre' q (entL ks))) q.length ((j + 1 : Nat)) (posE ks (j + 1) : Nat) (encL (ks.take (j + 1))))) := by
 have hlen : (pre' q (entL ks)).length = (entL ks).length := pre'_len _ _
 have hpl := posE_le ks (j + 1)
 have hps := posE_succ hj
 have hT := hk.1 _ (List.getElem_mem hj)
 have hpos := List.length_pos_iff.2 (entT_some _ _ hT)
 -- an entry of this kid
 have at_ : ∀ k, (hk2 : k < (entT ks[j]).length) -> ∃ e : Ent, ∃ h : posE ks j + k < (pre' q (entL ks)).length, (pre' q (entL ks))[posE ks j + k] = e /\ q.length < e.1.length /\ at0 e.1 q.length = at0 ks[j].lab 0 := fun k hk2 => by
   obtain ⟨h1, h2⟩ := List.getElem?_eq_some_iff.1 (entL_at hj hk2 q)
   exact ⟨_, h1, h2, (entry_at hk hj hk2 q).1, (entry_at hk hj hk2 q).2⟩
 obtain ⟨e0, h0, e0e, e0l, e0b⟩ := at_ 0 hpos
 rw [Nat.add_zero] at h0
 have e0e' : (pre' q (entL ks))[posE ks j] = e0 := by rw [<- e0e]; rfl
 refine ld_post (p := p133 dd) hct (by kernel_rfl) rfl (list_post (p := p133 dd) hct (b := b133_0_0) (entT ks[j]).length (fun k (_ : Unit) => s133_0_0 nl tt (ents (pre' q (entL ks))) q.length j (posE ks j) ((posE ks j + k : Nat)) (encL (ks.take j))) (fun _ _ => True) _ ?_ ?_ 0 (Nat.zero_le _) () trivial)
 · intro k _ hk2 _
   refine .inl ⟨(), trivial, ?_⟩
   obtain ⟨e, h1, h2, h3, h4⟩ := at_ k hk2
   rw [t133_0_0]
   simp only [ld_br, ld_chk', ld_leaf, fd_br, fd_chk', fd_leaf, decide_true, decide_eq_true_eq, if_true, Int.toNat_natCast, Int.natCast_nonneg, Int.ofNat_lt, Int.ofNat_le, Bool.false_eq_true, if_false, bne_iff_ne, beq_iff_eq, ne_eq, not_true_eq_false, not_false_eq_true, Bool.not_eq_true', decide_eq_false_iff_not, reduceCtorEq, rows_length, er_ok, er_ok', dr_er, isRows_rows, toRows_rows, rows_take, rows_drop, rows_append, ints_length, isInts_ints, toInts_ints, ei_i, ei_ok, mk_headD, ints_take, ints_drop, ints_append, ints_snoc, ints_snoc', List.take_length, Nat.zero_add, Nat.le_refl, er_a, er_b, er_k, er_n, er_s, er_v, ents_length, h1, h0, ents_getD h1, ents_getD h0, e0e', h2, ee_ok, ee_p, h3, e0l, byte_eq, at0_def, h4, e0b, wrap_succ (show posE ks j + k < 9223372036854775807 by omega)]
   rfl
 · intro _ _
   refine ⟨x133_0_0x0 nl tt (ents (pre' q (entL ks))) q.length j (posE ks j) ((posE ks (j + 1) : Nat)) (encL (ks.take j)), by simp, ?_, ?_⟩
   · have hsl : List.drop (posE ks j) (List.take (posE ks (j + 1)) (ents (pre' q (entL ks)))) = ents (pre' q (entT ks[j])) := by
       unfold ents
       rw [<- List.map_take, <- List.map_drop]
       congr 1
       unfold pre'
       rw [<- List.map_take, <- List.map_drop]
       congr 1
       rw [entL_parts hj, hps, <- List.append_assoc, List.take_left' (by rw [List.length_append]), List.drop_left']
       rfl
     obtain ⟨b1, b2⟩ := theN_eq (d := dd + 1) (l := pre' q (entT ks[j])) (n := (q.length : Nat)) ⟨q, n, hT, hq, by have := depL_mem (List.getElem_mem hj); omega, rfl, rfl⟩
     have hle : (pre' q (entT ks[j])).length < 4294967295 := by rw [pre'_len]; omega
     have hp1 : posE ks j <= posE ks (j + 1) := by omega
     have hp2 : posE ks (j + 1) <= (pre' q (entL ks)).length := by omega
     have htk : List.take j (encL (ks.take j)) = encL (ks.take j) := List.take_of_length_le (by simp; omega)
     have hsn : encL (ks.take j) ++ [[C.str ks[j].lab, C.sl 5 none false (rows ks[j].rows), C.sl 3 none false (encL ks[j].kids)]] = encL (ks.take (j + 1)) := by
       rw [<- Nd.enc_eq, List.take_succ_eq_append_getElem hj, encL_map, encL_map, List.map_append]; rfl
     rw [k133_0_0x0]
     simp only [ld_chk', ld_leaf, if_true, ents_length, Int.natCast_nonneg, Int.toNat_natCast, decide_true, hp1, hp2, hsl, isEs_ents, toEs_ents, hle, b1, b2, htk, hsn, show j + 1 < 4294967296 by omega]
   · rw [t133_0_0, <- hps]
     by_cases hj2 : j + 1 < ks.length
     · have hT2 := hk.1 _ (List.getElem_mem hj2)
       have hpos2 := List.length_pos_iff.2 (entT_some _ _ hT2)
       obtain ⟨h1, h2⟩ := List.getElem?_eq_some_iff.1 (entL_at hj2 hpos2 q)
       rw [Nat.add_zero] at h1
       obtain ⟨n1, n2⟩ := entry_at hk hj2 hpos2 q
       have h2' : (pre' q (entL ks))[posE ks (j + 1)] = (q ++ (entT ks[j + 1])[0].1, (entT ks[j + 1])[0].2) := by rw [<- h2]; rfl
       have hlt : hdB ks[j].lab < hdB ks[j + 1].lab := List.pairwise_iff_getElem.1 hk.2 j (j + 1) hj hj2 (by omega)
       have hne : ¬ at0 ks[j + 1].lab 0 = at0 ks[j].lab 0 := at0_ne (by omega)
       simp only [ld_br, ld_chk', ld_leaf, fd_br, fd_chk', fd_leaf, decide_true, decide_eq_true_eq, if_true, Int.toNat_natCast, Int.natCast_nonneg, Int.ofNat_lt, Int.ofNat_le, Bool.false_eq_true, if_false, bne_iff_ne, beq_iff_eq, ne_eq, not_true_eq_false, not_false_eq_true, Bool.not_eq_true', decide_eq_false_iff_not, reduceCtorEq, rows_length, er_ok, er_ok', dr_er, isRows_rows, toRows_rows, rows_take, rows_drop, rows_append, ints_length, isInts_ints, toInts_ints, ei_i, ei_ok, mk_headD, ints_take, ints_drop, ints_append, ints_snoc, ints_snoc', List.take_length, Nat.zero_add, Nat.le_refl, er_a, er_b, er_k, er_n, er_s, er_v, ents_length, h1, h0, ents_getD h1, ents_getD h0, e0e', h2', ee_ok, ee_p, n1, e0l, byte_eq, at0_def, n2, e0b, hne]
     · have : posE ks (j + 1) = (entL ks).length := by
         unfold posE; rw [List.take_of_length_le (by omega)]
       have hn : ¬ (((posE ks (j + 1) : Nat) : Int) < ((pre' q (entL ks)).length : Nat)) := by omega
       simp only [ld_br, ld_chk', ld_leaf, fd_br, fd_chk', fd_leaf, decide_true, decide_eq_true_eq, if_true, Int.toNat_natCast, Int.natCast_nonneg, Int.ofNat_lt, Int.ofNat_le, Bool.false_eq_true, if_false, bne_iff_ne, beq_iff_eq, ne_eq, not_true_eq_false, not_false_eq_true, Bool.not_eq_true', decide_eq_false_iff_not, reduceCtorEq, rows_length, er_ok, er_ok', dr_er, isRows_rows, toRows_rows, rows_take, rows_drop, rows_append, ints_length, isInts_ints, toInts_ints, ei_i, ei_ok, mk_headD, ints_take, ints_drop, ints_append, ints_snoc, ints_snoc', List.take_length, Nat.zero_add, Nat.le_refl, er_a, er_b, er_k, er_n, er_s, er_v, ents_length, hlen, this, Int.lt_irrefl]
theorem kids_le_ents {ks : List Nd} {n : Nat} (h : kidsOk ks n) : ks.length <= (entL ks).length := by
 induction ks with
 | nil => simp
 | cons t r ih =>
   have h1 := List.length_pos_iff.2 (entT_some t n (h.1 t (by simp)))
   have h2 := ih (kidsOk_sub h (List.sublist_cons_self _ _))
   rw [entL, List.length_append, List.length_cons]; omega
theorem f133 (dd : Nat) (ih : CSpecOk E 175 (s175 dd)) (nl : OBo) (tt : Bool) (l : List Ent) (n : Int) (ks : List Nd) (hl : l.length < 4294967295) (ht : IsK (dd + 1) l n ks) :
   call E 133 [.c (.sl 2 nl tt (ents l)), V.i n] [] = some ([.c (.sl 3 none false (encL ks))], []) := by
 have hct : (ctOf [(175, s175 dd)]).ok E := ctOf_cons ih ctOf_nil
 refine call_of (E := E) (sh := sh) (ct := ctOf [(175, s175 dd)]) (na := 2) (m := 0) hct rfl rfl rfl rfl rfl rfl ?_
 show (p133 dd).fd ((p133 dd).ft _ _) = _
 obtain ⟨q, m, h1, h2, h3, rfl, rfl⟩ := ht
 rw [pre'_len] at hl
 have hkl := kids_le_ents h1
 rw [t133]
 refine fd_post (p := p133 dd) hct (by kernel_rfl) rfl (list_post (p := p133 dd) hct (b := b133_0) ks.length (fun j (_ : Unit) => s133_0 nl tt (ents (pre' q (entL ks))) q.length j (posE ks j : Nat) (encL (ks.take j))) (fun _ _ => True) _ ?_ ?_ 0 (Nat.zero_le _) () trivial)
 · intro j _ hj _
   refine .inl ⟨(), trivial, ?_⟩
   have hps := posE_succ hj
   have hpos := List.length_pos_iff.2 (entT_some _ _ (h1.1 _ (List.getElem_mem hj)))
   have hple := posE_le ks (j + 1)
   rw [t133_0, ld_br, if_pos (by rw [ents_length, pre'_len]; exact decide_eq_true (by omega))]
   exact inner132 dd hct nl tt q h1 h2 h3 (by omega) (by omega) hj
 · intro _ _
   have he : posE ks ks.length = (entL ks).length := by unfold posE; rw [List.take_length]
   refine ⟨x133_0x0 nl tt (ents (pre' q (entL ks))) q.length ks.length (posE ks ks.length : Nat) (encL (ks.take ks.length)), by simp, ?_, ?_⟩
   · rw [k133_0x0, fd_leaf, List.take_length, List.take_of_length_le (by simp)]
   · rw [t133_0, he]; simp only [ld_br, ld_chk', ld_leaf, fd_br, fd_chk', fd_leaf, decide_true, decide_eq_true_eq, if_true, Int.toNat_natCast, Int.natCast_nonneg, Int.ofNat_lt, Int.ofNat_le, Bool.false_eq_true, if_false, bne_iff_ne, beq_iff_eq, ne_eq, not_true_eq_false, not_false_eq_true, Bool.not_eq_true', decide_eq_false_iff_not, reduceCtorEq, rows_length, er_ok, er_ok', dr_er, isRows_rows, toRows_rows, rows_take, rows_drop, rows_append, ints_length, isInts_ints, toInts_ints, ei_i, ei_ok, mk_headD, ints_take, ints_drop, ints_append, ints_snoc, ints_snoc', List.take_length, Nat.zero_add, Nat.le_refl, er_a, er_b, er_k, er_n, er_s, er_v, ents_length, pre'_len, Int.lt_irrefl]
theorem s133_ok : ∀ d, CSpecOk E 133 (s133 d)
 | 0 => by
   intro a h cs vals h' he hc
   unfold s133 at he
   split at he <;> simp only [Option.some.injEq, Prod.mk.injEq, reduceCtorEq] at he
   obtain ⟨rfl, rfl, rfl⟩ := he
   simp only [allT, Bool.and_true, Bool.and_eq_true, decide_eq_true_eq] at hc
   obtain ⟨t, q, m, _, _, h, _⟩ := hasK_ex hc.2.2
   omega
 | d + 1 => by
   intro a h cs vals h' he hc
   unfold s133 at he
   split at he <;> simp only [Option.some.injEq, Prod.mk.injEq, reduceCtorEq] at he
   rename_i nl tt xs n
   obtain ⟨rfl, rfl, rfl⟩ := he
   simp only [allT, Bool.and_true, Bool.and_eq_true, decide_eq_true_eq] at hc
   obtain ⟨h1, h2, h3⟩ := hc
   obtain ⟨l, rfl⟩ := ents_ex h1
   rw [ents_length] at h2
   rw [toEs_ents] at h3 ⊢
   obtain ⟨t, ht⟩ := hasK_ex h3
   rw [(theK_eq ht).2]
   exact f133 d (s175_of d (s133_ok d)) nl tt l n t (by omega) ht
theorem f73 (dd : Nat) (nl : OBo) (tt : Bool) (l : List Ent) (ks : List Nd) (hl : l.length < 4294967295) (ht : IsK dd l 0 ks) : call E 73 [.c (.sl 2 nl tt (ents l))] [] = some ([VT (.node [] [] ks)], []) := by
 refine call_of (E := E) (sh := sh) (ct := ctOf [(133, s133 dd)]) (na := 1) (m := 0) (ctOf_cons (s133_ok dd) ctOf_nil) rfl rfl rfl rfl rfl rfl ?_
 show (p73 dd).fd ((p73 dd).ft _ _) = _
 obtain ⟨b1, b2⟩ := theK_eq ht
 rw [t73]
 simp only [fd_chk', fd_leaf, if_true, isEs_ents, toEs_ents, ents_length, hl, decide_true, b1, b2]
 rfl
noncomputable def s73 (dd : Nat) : CSpec := fun a h => match a, h with
 | [.c (.sl 2 nl tt xs)], [] => some ([isEs xs, decide (xs.length < 4294967295), hasK dd (toEs xs) 0], [VT (.node [] [] (theK dd (toEs xs) 0))], [])
 | _, _ => none
theorem s73_ok (dd : Nat) : CSpecOk E 73 (s73 dd) := by
 intro a h cs vals h' he hc
 unfold s73 at he
 split at he <;> simp only [Option.some.injEq, Prod.mk.injEq, reduceCtorEq] at he
 rename_i nl tt xs
 obtain ⟨rfl, rfl, rfl⟩ := he
 simp only [allT, Bool.and_true, Bool.and_eq_true, decide_eq_true_eq] at hc
 obtain ⟨h1, h2, h3⟩ := hc
 obtain ⟨l, rfl⟩ := ents_ex h1
 rw [ents_length] at h2
 rw [toEs_ents] at h3 ⊢
 obtain ⟨t, ht⟩ := hasK_ex h3
 rw [(theK_eq ht).2]
 exact f73 dd nl tt l t (by omega) ht
end Go.Proofs.YtgaabjmbnomimaaGreatDoor
namespace Go.Proofs.YtgaabjmbnomimaaGreatDoor
open Go Go.Ev
-- cse
def s22 : CSpec := fun a h => match a, h with
 | [.c (.sl 5 nl tt xs)], [] => some ([isRows xs], [V.b (shortR (toRows xs))], [])
 | _, _ => none
variable (dd : Nat)
def smallR (n : Int) (t : Nd) : Bool := decide (0 < leftT t n 60)
def s21 : CSpec := fun a h => match a, h with
 | [.agg [.c (.str s), .c (.sl 5 rn rt xs), .c (.sl 3 kn kt ys)]], [] => some ([isRows xs, isL ys, lensT (.node s (toRows xs) (decL ys))], [V.b (smallR 400 (.node s (toRows xs) (decL ys)))], [])
 | _, _ => none
def s23 : CSpec := fun a h => match a, h with
 | [], [] => some ([], [V.b true], [])
 | _, _ => none
end Go.Proofs.YtgaabjmbnomimaaGreatDoor
namespace Go.Proofs.YtgaabjmbnomimaaGreatDoor
open Go Go.Ev
-- cse
variable (dd : Nat)
def goodE (e : Ent) : Bool := isPath e.1 && decide (e.2 ≠ []) && right e.2
def s117 : CSpec := fun a h => match a, h with
 | [.agg [.c (.str p), .c (.sl 5 rn rt xs)]], [] => some ([isRows xs], [V.b (!goodE (p, toRows xs))], [])
 | _, _ => none
noncomputable abbrev p71 : Par := par E sh (ctOf []) 71 1 0
theorem t71 (p : Bys) : p71.ft ([V.c (C.str p)]) ([]) = (Tr.br (decide (1 <= (↑p.length : Int))) (Tr.leaf (R.out [V.c (C.bool (decide ((↑p.length : Int) <= 24)))] [])) (Tr.leaf (R.out [V.c (C.bool false)] []))) := by kernel_rfl
def s71 : CSpec := fun a h => match a, h with
 | [.c (.str p)], [] => some ([], [V.b (isPath p)], [])
 | _, _ => none
noncomputable abbrev p74 : Par := par E sh (ctOf []) 74 2 0
abbrev s74_0 (nl : OBo) (tt : Bool) (xs : LLC) (p : Bys) (rn : OBo) (rt : Bool) (ys : LLC) (n5 : Nat) (b6 : Bool) (i7 : Int) (ys1 : LLC) : Fr × Hp := ([(0, V.c (C.sl 2 nl tt xs)), (3, V.ptr 0 0 0 0), (5, V.buf 1 0 0 n5), (6, V.c (C.bool b6)), (7, V.c (C.int IntKind.i64 i7))], [O.box [V.c (C.str p), V.c (C.sl 5 rn rt ys)], O.mem 2 0 ys1])
noncomputable abbrev b74_0 : Code := loopAt (codeOf E (74)) 0
abbrev x74_0x0 (nl : OBo) (tt : Bool) (xs : LLC) (p : Bys) (rn : OBo) (rt : Bool) (ys : LLC) (n5 : Nat) (b6 : Bool) (i7 : Int) (ys1 : LLC) : Ex × Fr × Hp := (Ex.exit 0, [(0, V.c (C.sl 2 nl tt xs)), (3, V.ptr 0 0 0 0), (5, V.buf 1 0 0 n5), (6, V.c (C.bool b6)), (7, V.c (C.int IntKind.i64 i7)), (15, V.c (C.bool false))], [O.box [V.c (C.str p), V.c (C.sl 5 rn rt ys)], O.mem 2 0 ys1])
theorem t74_0 (nl : OBo) (tt : Bool) (xs : LLC) (p : Bys) (rn : OBo) (rt : Bool) (ys : LLC) (n5 : Nat) (b6 : Bool) (i7 : Int) (ys1 : LLC) : p74.lts b74_0 (s74_0 nl tt xs p rn rt ys n5 b6 i7 ys1) = (Tr.br (decide (i7 < (↑xs.length : Int))) (Tr.br (!b6) (Tr.chk (decide (0 <= i7)) (Tr.chk true (Tr.chk (decide (i7.toNat < xs.length)) (Tr.chk (shOk [Sk.str, Sk.sl 5] (xs.getD i7.toNat [])) (Tr.br (!Op.bytesLess ((xs.getD i7.toNat []).headD C.pnil).st p) (Tr.chk true (Tr.chk true (Tr.chk (decide (n5 + 1 < 4294967296)) (Tr.chk true (Tr.chk (decide (0 <= i7)) (Tr.chk true (Tr.chk (decide (i7.toNat < xs.length)) (Tr.chk (shOk [Sk.str, Sk.sl 5] (xs.getD i7.toNat [])) (Tr.br (!((xs.getD i7.toNat []).headD C.pnil).st == p) (Tr.chk (decide (0 <= i7)) (Tr.chk true (Tr.chk (decide (i7.toNat < xs.length)) (Tr.chk (shOk [Sk.str, Sk.sl 5] (xs.getD i7.toNat [])) (Tr.chk true (Tr.chk true (Tr.chk (decide (n5 + 1 + 1 < 4294967296)) (Tr.chk true (Tr.leaf (R.s (s74_0 nl tt xs p rn rt ys (n5 + 1 + 1) true (IntKind.i64.wrap (i7 + 1)) (List.take (n5 + 1) (List.take n5 ys1 ++ [[C.str p, C.sl 5 rn rt ys]]) ++ [[Sk.str.mk ((xs.getD i7.toNat []).headD C.pnil), (Sk.sl 5).mk ((xs.getD i7.toNat []).tail.headD C.pnil)]])))))))))))) (Tr.leaf (R.s (s74_0 nl tt xs p rn rt ys (n5 + 1) true (IntKind.i64.wrap (i7 + 1)) (List.take n5 ys1 ++ [[C.str p, C.sl 5 rn rt ys]]))))))))))))) (Tr.chk (decide (0 <= i7)) (Tr.chk true (Tr.chk (decide (i7.toNat < xs.length)) (Tr.chk (shOk [Sk.str, Sk.sl 5] (xs.getD i7.toNat [])) (Tr.br (!((xs.getD i7.toNat []).headD C.pnil).st == p) (Tr.chk (decide (0 <= i7)) (Tr.chk true (Tr.chk (decide (i7.toNat < xs.length)) (Tr.chk (shOk [Sk.str, Sk.sl 5] (xs.getD i7.toNat [])) (Tr.chk true (Tr.chk true (Tr.chk (decide (n5 + 1 < 4294967296)) (Tr.chk true (Tr.leaf (R.s (s74_0 nl tt xs p rn rt ys (n5 + 1) b6 (IntKind.i64.wrap (i7 + 1)) (List.take n5 ys1 ++ [[Sk.str.mk ((xs.getD i7.toNat []).headD C.pnil), (Sk.sl 5).mk ((xs.getD i7.toNat []).tail.headD C.pnil)]])))))))))))) (Tr.leaf (R.s (s74_0 nl tt xs p rn rt ys n5 b6 (IntKind.i64.wrap (i7 + 1)) ys1))))))))))))) (Tr.chk (decide (0 <= i7)) (Tr.chk true (Tr.chk (decide (i7.toNat < xs.length)) (Tr.chk (shOk [Sk.str, Sk.sl 5] (xs.getD i7.toNat [])) (Tr.br (!((xs.getD i7.toNat []).headD C.pnil).st == p) (Tr.chk (decide (0 <= i7)) (Tr.chk true (Tr.chk (decide (i7.toNat < xs.length)) (Tr.chk (shOk [Sk.str, Sk.sl 5] (xs.getD i7.toNat [])) (Tr.chk true (Tr.chk true (Tr.chk (decide (n5 + 1 < 4294967296)) (Tr.chk true (Tr.leaf (R.s (s74_0 nl tt xs p rn rt ys (n5 + 1) b6 (IntKind.i64.wrap (i7 + 1)) (List.take n5 ys1 ++ [[Sk.str.mk ((xs.getD i7.toNat []).headD C.pnil), (Sk.sl 5).mk ((xs.getD i7.toNat []).tail.headD C.pnil)]])))))))))))) (Tr.leaf (R.s (s74_0 nl tt xs p rn rt ys n5 b6 (IntKind.i64.wrap (i7 + 1)) ys1))))))))) (Tr.leaf (R.x (x74_0x0 nl tt xs p rn rt ys n5 b6 i7 ys1)))) := by kernel_rfl
theorem k74_0x0 (nl : OBo) (tt : Bool) (xs : LLC) (p : Bys) (rn : OBo) (rt : Bool) (ys : LLC) (n5 : Nat) (b6 : Bool) (i7 : Int) (ys1 : LLC) : p74.fkx 0 (x74_0x0 nl tt xs p rn rt ys n5 b6 i7 ys1) = (Tr.br (!b6) (Tr.chk true (Tr.chk true (Tr.chk (decide (n5 + 1 < 4294967296)) (Tr.chk true (Tr.leaf (R.out [V.c (C.sl 2 none false (List.take (n5 + 1) (List.take n5 ys1 ++ [[C.str p, C.sl 5 rn rt ys]])))] [])))))) (Tr.leaf (R.out [V.c (C.sl 2 none false (List.take n5 ys1))] []))) := by kernel_rfl
theorem t74 (nl : OBo) (tt : Bool) (xs : LLC) (p : Bys) (rn : OBo) (rt : Bool) (ys : LLC) : p74.ft ([V.c (C.sl 2 nl tt xs), V.agg [V.c (C.str p), V.c (C.sl 5 rn rt ys)]]) ([]) = (Tr.ls 0 (s74_0 nl tt xs p rn rt ys (0) ((↑ys.length : Int) == 0) (0) ([]))) := by kernel_rfl
def insQ (put : Bool) (e : Ent) : List Ent -> List Ent
 | [] => cond put [] [e]
 | x :: r => cond (!put && !Op.bytesLess x.1 e.1) [e] [] ++ (cond (x.1 == e.1) [] [x] ++ insQ (put || !Op.bytesLess x.1 e.1) e r)
def s74 : CSpec := fun a h => match a, h with
 | [.c (.sl 2 nl tt xs), .agg [.c (.str p), .c (.sl 5 none false ys)]], [] => some ([isEs xs, isRows ys, decide (xs.length < 4294967290)], [.c (.sl 2 none false (ents (insQ (decide ((toRows ys).length = 0)) (p, toRows ys) (toEs xs))))], [])
 | _, _ => none
end Go.Proofs.YtgaabjmbnomimaaGreatDoor
namespace Go.Proofs.YtgaabjmbnomimaaGreatDoor
open Go Go.Ev
-- cse
end Go.Proofs.YtgaabjmbnomimaaGreatDoor
namespace Go.Proofs.YtgaabjmbnomimaaGreatDoor
open Go Go.Ev
theorem insQ_put : ∀ {x : List Ent} {e : Ent}, (∀ a ∈ x, Op.bytesLess e.1 a.1 = true) -> insQ true e x = x
 | [], _, _ => rfl
 | a :: r, e, h => by
   have h1 := h a (by simp)
   have hne : (a.1 == e.1) = false := by rw [beq_eq_false_iff_ne]; exact fun k => bl_ne h1 k.symm
   rw [insQ, hne]
   simp only [Bool.not_true, Bool.false_and, cond_false, List.nil_append, Bool.true_or, List.singleton_append]
   rw [insQ_put fun b hb => h b (by simp [hb])]
theorem insQ_insE {e : Ent} (hr : e.2 ≠ []) : ∀ {x : List Ent}, Rise x -> insQ false e x = insE x e.1 e.2
 | [], _ => by rw [insE, if_neg hr]; rfl
 | a :: r, h => by
   rw [Rise, List.pairwise_cons] at h
   rw [insQ, insE]
   cases c : Op.bytesLess a.1 e.1 with
   | true =>
     have hne : (a.1 == e.1) = false := by rw [beq_eq_false_iff_ne]; exact bl_ne c
     rw [hne, if_pos rfl]
     simp only [Bool.not_true, Bool.and_false, cond_false, List.nil_append, Bool.or_false, List.singleton_append]
     rw [insQ_insE hr h.2]
   | false =>
     rw [if_neg (by simp)]
     have hgt : ∀ b ∈ r, Op.bytesLess e.1 b.1 = true := fun b hb => by
       cases d : Op.bytesLess e.1 a.1 with
       | true => exact bl_trans d (h.1 b hb)
       | false => rw [<- bl_total _ _ c d]; exact h.1 b hb
     simp only [Bool.not_false, Bool.and_self, cond_true, Bool.false_or]
     rw [insQ_put hgt]
     by_cases d : a.1 = e.1
     · rw [if_pos d, if_neg hr, beq_iff_eq.2 d]; rfl
     · rw [if_neg d, if_neg hr, beq_eq_false_iff_ne.2 d]; rfl
end Go.Proofs.YtgaabjmbnomimaaGreatDoor
namespace Go.Proofs.YtgaabjmbnomimaaGreatDoor
open Go Go.Ev
theorem f71 (p : Bys) : call E 71 [.c (.str p)] [] = some ([V.b (isPath p)], []) := by
 refine call_of (E := E) (sh := sh) (ct := ctOf []) (na := 1) (m := 0) ctOf_nil rfl rfl rfl rfl rfl rfl ?_
 rw [t71]
 simp only [ld_br, ld_chk', ld_leaf, fd_br, fd_chk', fd_leaf, decide_true, decide_eq_true_eq, if_true, Int.toNat_natCast, Int.natCast_nonneg, Int.ofNat_lt, Int.ofNat_le, Bool.false_eq_true, if_false, bne_iff_ne, beq_iff_eq, ne_eq, not_true_eq_false, not_false_eq_true, Bool.not_eq_true', decide_eq_false_iff_not, reduceCtorEq, rows_length, er_ok, er_ok', dr_er, isRows_rows, toRows_rows, rows_take, rows_drop, rows_append, ints_length, isInts_ints, toInts_ints, ei_i, ei_ok, mk_headD, ints_take, ints_drop, ints_append, ints_snoc, ints_snoc', List.take_length, Nat.zero_add, Nat.le_refl, er_a, er_b, er_k, er_n, er_s, er_v]
 unfold isPath
 by_cases h : p = []
 · subst h; rfl
 · have h1 := List.length_pos_iff.2 h
   have h2 : (1 : Int) <= (p.length : Nat) := by omega
   have h3 : ((p.length : Int) <= 24) ↔ (p.length <= 24) := by omega
   simp [h, h2, h3]
theorem s71_ok : CSpecOk E 71 s71 := by
 intro a h cs vals h' he hc
 unfold s71 at he
 split at he <;> simp only [Option.some.injEq, Prod.mk.injEq, reduceCtorEq] at he
 obtain ⟨rfl, rfl, rfl⟩ := he
 exact f71 _
end Go.Proofs.YtgaabjmbnomimaaGreatDoor
namespace Go.Proofs.YtgaabjmbnomimaaGreatDoor
open Go Go.Ev
theorem ee_mk2 (e : Ent) (d d' : C) : [Sk.str.mk ((ee e).headD d), (Sk.sl 5).mk ((ee e).tail.headD d')] = ee e := rfl
theorem ents_snoc1 (l : List Ent) (e : Ent) : ents l ++ [ee e] = ents (l ++ [e]) := by simp [ents]
theorem ents_take' {l : List Ent} {n : Nat} (h : n = l.length) : (ents l).take n = ents l := ents_take l n h
theorem insQ_drop {x : List Ent} {k : Nat} (h : k < x.length) (put : Bool) (e : Ent) : insQ put e (x.drop k) = cond (!put && !Op.bytesLess x[k].1 e.1) [e] [] ++ (cond (x[k].1 == e.1) [] [x[k]] ++ insQ (put || !Op.bytesLess x[k].1 e.1) e (x.drop (k + 1))) := by
 rw [List.drop_eq_getElem_cons h, insQ]
theorem insQ_len : ∀ (put : Bool) (e : Ent) (x : List Ent), (insQ put e x).length <= x.length + (cond put 0 1)
 | put, e, [] => by cases put <;> simp [insQ]
 | put, e, a :: r => by
   rw [insQ]
   have h1 := insQ_len (put || !Op.bytesLess a.1 e.1) e r
   cases put <;> cases hb : Op.bytesLess a.1 e.1 <;> rw [hb] at h1 <;> cases (a.1 == e.1) <;> simp at h1 ⊢ <;> omega
theorem f74 (nl : OBo) (tt : Bool) (x : List Ent) (p : Bys) (rs : List Row) (hx : x.length < 4294967290) : call E 74 [.c (.sl 2 nl tt (ents x)), .agg [.c (.str p), .c (.sl 5 none false (rows rs))]] [] = some ([.c (.sl 2 none false (ents (insQ (decide (rs.length = 0)) (p, rs) x)))], []) := by
 refine call_of (E := E) (sh := sh) (ct := ctOf []) (na := 2) (m := 0) ctOf_nil rfl rfl rfl rfl rfl rfl ?_
 rw [t74, rows_length]
 have hz : ((rs.length : Int) == 0) = decide (rs.length = 0) := by
   by_cases h : rs.length = 0
   · simp [h]
   · have : ((rs.length : Int)) ≠ 0 := by omega
     simp [h, this]
 rw [hz]
 generalize decide (rs.length = 0) = put0
 have hee : [C.str p, C.sl 5 none false (rows rs)] = ee (p, rs) := rfl
 have hlen := insQ_len put0 (p, rs) x
 have hc1 : (cond put0 0 1) <= 1 := by cases put0 <;> simp
 have hbnd : ∀ (acc : List Ent) put k, acc ++ insQ put (p, rs) (x.drop k) = insQ put0 (p, rs) x -> acc.length + (insQ put (p, rs) (x.drop k)).length <= x.length + 1 := fun acc put k h => by
   have := congrArg List.length h
   rw [List.length_append] at this; omega
 refine fd_post (p := p74) ctOf_nil (by kernel_rfl) rfl (list_post (p := p74) ctOf_nil (b := b74_0) x.length (fun k (s : List Ent × Bool) => s74_0 nl tt (ents x) p none false (rows rs) s.1.length s.2 k (ents s.1)) (fun k s => s.1 ++ insQ s.2 (p, rs) (x.drop k) = insQ put0 (p, rs) x) _ ?_ ?_ 0 (Nat.zero_le _) ([], put0) rfl)
 · rintro k ⟨acc, put⟩ hk h
   dsimp only at h
   have hb := hbnd acc put k h
   rw [insQ_drop hk] at h hb
   left
   refine ⟨(acc ++ (cond (!put && !Op.bytesLess x[k].1 p) [(p, rs)] [] ++ cond (x[k].1 == p) [] [x[k]]), put || !Op.bytesLess x[k].1 p), by rw [<- h]; simp only [List.append_assoc], ?_⟩
   rw [t74_0]
   dsimp only at hb
   cases put <;> cases c1 : Op.bytesLess x[k].1 p <;> cases c2 : (x[k].1 == p) <;> simp only [c1, c2, Bool.not_true, Bool.not_false, Bool.and_true, Bool.true_and, Bool.and_false, Bool.false_and, cond_true, cond_false, List.length_append, List.length_cons, List.length_nil] at hb <;>
     simp only [ld_br, ld_chk', ld_leaf, fd_br, fd_chk', fd_leaf, decide_true, decide_eq_true_eq, if_true, Int.toNat_natCast, Int.natCast_nonneg, Int.ofNat_lt, Int.ofNat_le, Bool.false_eq_true, if_false, bne_iff_ne, beq_iff_eq, ne_eq, not_true_eq_false, not_false_eq_true, Bool.not_eq_true', decide_eq_false_iff_not, reduceCtorEq, rows_length, pcs_length, er_ok, er_ok', ep_ok, ep_ok', dr_er, dp_ep, isRows_rows, isPcs_pcs, toRows_rows, toPcs_pcs, rows_take, rows_drop, pcs_take, pcs_drop, rows_append, pcs_append, ints_length, isInts_ints, toInts_ints, ei_i, ei_ok, mk_headD, ints_take, ints_drop, ints_append, ints_snoc, ints_snoc', List.take_length, Nat.zero_add, Nat.le_refl, er_a, er_b, er_k, er_n, er_s, er_v, ep_a, ep_b, ep_hk, ep_hn, ep_hs, ep_wk, ep_wn, ep_ws, hee, ents_length, hk, ents_getD hk, ee_ok, ee_p, ee_mk2, c1, c2, Bool.not_true, Bool.not_false, Bool.and_true, Bool.true_and, Bool.and_false, Bool.false_and, Bool.or_true, Bool.true_or, Bool.or_false, Bool.false_or, cond_true, cond_false, Bool.true_eq_false, List.append_nil, List.nil_append,
       ents_take' rfl, ents_snoc1, ents_take' (show acc.length + 1 = (acc ++ [((p, rs) : Ent)]).length by simp), List.length_append, List.length_cons, List.length_nil, List.singleton_append, List.append_assoc, show acc.length + 1 < 4294967296 by omega, show acc.length + 1 + 1 < 4294967296 by omega, wrap_succ (show k < 9223372036854775807 by omega)] <;> rfl
 · rintro ⟨acc, put⟩ h
   dsimp only at h
   have hb := hbnd acc put x.length h
   rw [List.drop_length, insQ] at h
   refine ⟨x74_0x0 nl tt (ents x) p none false (rows rs) acc.length put x.length (ents acc), by simp, ?_, ?_⟩
   · rw [k74_0x0, <- h]
     cases put <;> simp only [ld_br, ld_chk', ld_leaf, fd_br, fd_chk', fd_leaf, decide_true, decide_eq_true_eq, if_true, Int.toNat_natCast, Int.natCast_nonneg, Int.ofNat_lt, Int.ofNat_le, Bool.false_eq_true, if_false, bne_iff_ne, beq_iff_eq, ne_eq, not_true_eq_false, not_false_eq_true, Bool.not_eq_true', decide_eq_false_iff_not, reduceCtorEq, rows_length, er_ok, er_ok', dr_er, isRows_rows, toRows_rows, rows_take, rows_drop, rows_append, ints_length, isInts_ints, toInts_ints, ei_i, ei_ok, mk_headD, ints_take, ints_drop, ints_append, ints_snoc, ints_snoc', List.take_length, Nat.zero_add, Nat.le_refl, er_a, er_b, er_k, er_n, er_s, er_v, hee, Bool.not_true, Bool.not_false, cond_true, cond_false, List.append_nil, ents_take' rfl, ents_snoc1, ents_take' (show acc.length + 1 = (acc ++ [((p, rs) : Ent)]).length by simp), show acc.length + 1 < 4294967296 by omega]
   · rw [t74_0]; simp only [ld_br, ld_chk', ld_leaf, fd_br, fd_chk', fd_leaf, decide_true, decide_eq_true_eq, if_true, Int.toNat_natCast, Int.natCast_nonneg, Int.ofNat_lt, Int.ofNat_le, Bool.false_eq_true, if_false, bne_iff_ne, beq_iff_eq, ne_eq, not_true_eq_false, not_false_eq_true, Bool.not_eq_true', decide_eq_false_iff_not, reduceCtorEq, rows_length, er_ok, er_ok', dr_er, isRows_rows, toRows_rows, rows_take, rows_drop, rows_append, ints_length, isInts_ints, toInts_ints, ei_i, ei_ok, mk_headD, ints_take, ints_drop, ints_append, ints_snoc, ints_snoc', List.take_length, Nat.zero_add, Nat.le_refl, er_a, er_b, er_k, er_n, er_s, er_v, ents_length, Int.lt_irrefl]
theorem s74_ok : CSpecOk E 74 s74 := by
 intro a h cs vals h' he hc
 unfold s74 at he
 split at he <;> simp only [Option.some.injEq, Prod.mk.injEq, reduceCtorEq] at he
 rename_i nl tt xs p ys
 obtain ⟨rfl, rfl, rfl⟩ := he
 simp only [allT, Bool.and_true, Bool.and_eq_true, decide_eq_true_eq] at hc
 obtain ⟨h1, h2, h3⟩ := hc
 obtain ⟨x, rfl⟩ := ents_ex h1
 obtain ⟨rs, rfl⟩ := rows_ex h2
 rw [ents_length] at h3
 rw [toEs_ents, toRows_rows]
 exact f74 nl tt x p rs h3
end Go.Proofs.YtgaabjmbnomimaaGreatDoor
namespace Go.Proofs.YtgaabjmbnomimaaGreatDoor
open Go Go.Ev
-- cse
variable (dd : Nat)
end Go.Proofs.YtgaabjmbnomimaaGreatDoor
namespace Go.Proofs.YtgaabjmbnomimaaGreatDoor
open Go Go.Ev
theorem root_ent {t : Nd} (h : okR t = true) : entT t = entP t := by
 obtain ⟨h1, h2, _⟩ := okR_iff.1 h
 rw [entP_R h, entT_eq, h1, h2]
 simp [entR]
theorem root_len (t : Nd) : (entT t).length <= (entL t.kids).length + 1 := by
 rw [entT_eq]
 split <;> simp
section
variable (a b c : Nd) (all : List (List UInt8))
end
theorem node_eta {t : Nd} (h : okR t = true) : Nd.node [] [] t.kids = t := by
 obtain ⟨h1, h2, _⟩ := okR_iff.1 h
 conv => rhs; rw [<- Nd.eta t, h1, h2]
end Go.Proofs.YtgaabjmbnomimaaGreatDoor
namespace Go.Proofs.YtgaabjmbnomimaaGreatDoor
open Go Go.Ev
-- cse
variable (dd : Nat)
noncomputable abbrev p25 : Par := par E sh (ctOf [(70, s70), (71, s71), (72, s72), (73, s73 dd), (74, s74), (75, s75)]) 25 3 0
theorem t25 (s : Bys) (rn : OBo) (rt : Bool) (xs : LLC) (kn : OBo) (kt : Bool) (ys : LLC) (p : Bys) (zs : LLC) : (p25 dd).ft ([V.agg [V.c (C.str s), V.c (C.sl 5 rn rt xs), V.c (C.sl 3 kn kt ys)], V.c (C.str p), V.c (C.sl 5 none false zs)]) ([]) = (Tr.chk (isRows xs) (Tr.chk (isL ys) (Tr.br (!okR (Nd.node s (toRows xs) (decL ys))) (Tr.leaf (R.out [V.agg [V.c (C.str []), V.c (C.sl 5 none false []), V.c (C.sl 3 none false [])], V.c (C.int IntKind.i64 2)] [])) (Tr.br (!isPath p) (Tr.leaf (R.out [V.agg [V.c (C.str []), V.c (C.sl 5 none false []), V.c (C.sl 3 none false [])], V.c (C.int IntKind.i64 2)] [])) (Tr.chk (isRows zs) (Tr.br (!right (toRows zs)) (Tr.leaf (R.out [V.agg [V.c (C.str []), V.c (C.sl 5 none false []), V.c (C.sl 3 none false [])], V.c (C.int IntKind.i64 2)] [])) (Tr.chk (isRows xs) (Tr.chk (isL ys) (Tr.chk (decide ((entT (Nd.node s (toRows xs) (decL ys))).length < 4294967290)) (Tr.chk (isEs (ents (if okR (Nd.node s (toRows xs) (decL ys)) = true then entT (Nd.node s (toRows xs) (decL ys)) else []))) (Tr.chk (isRows zs) (Tr.chk (decide ((ents (if okR (Nd.node s (toRows xs) (decL ys)) = true then entT (Nd.node s (toRows xs) (decL ys)) else [])).length < 4294967290)) (Tr.chk (isEs (ents (insQ (decide ((toRows zs).length = 0)) (p, toRows zs) (toEs (ents (if okR (Nd.node s (toRows xs) (decL ys)) = true then entT (Nd.node s (toRows xs) (decL ys)) else [])))))) (Tr.chk (decide ((ents (insQ (decide ((toRows zs).length = 0)) (p, toRows zs) (toEs (ents (if okR (Nd.node s (toRows xs) (decL ys)) = true then entT (Nd.node s (toRows xs) (decL ys)) else []))))).length < 4294967295)) (Tr.chk (hasK dd (toEs (ents (insQ (decide ((toRows zs).length = 0)) (p, toRows zs) (toEs (ents (if okR (Nd.node s (toRows xs) (decL ys)) = true then entT (Nd.node s (toRows xs) (decL ys)) else [])))))) 0) (Tr.leaf (R.out [V.agg [V.c (C.str []), V.c (C.sl 5 none false []), V.c (C.sl 3 none false (encL (Nd.node [] [] (theK dd (toEs (ents (insQ (decide ((toRows zs).length = 0)) (p, toRows zs) (toEs (ents (if okR (Nd.node s (toRows xs) (decL ys)) = true then entT (Nd.node s (toRows xs) (decL ys)) else [])))))) 0)).kids))], V.c (C.int IntKind.i64 0)] []))))))))))))))))) := by kernel_rfl
def rowsLen (l : List Ent) : Bool := l.all fun e => decide (e.2.length <= 9223372036854775807)
def s25 : CSpec := fun a h => match a, h with
 | [.agg [.c (.str s), .c (.sl 5 rn rt xs), .c (.sl 3 kn kt ys)], .c (.str p), .c (.sl 5 none false zs)], [] => some ([isRows xs, isL ys, isRows zs, decide ((entL (decL ys)).length < 1000000000)], [VT (putP (.node s (toRows xs) (decL ys)) p (toRows zs)).1, V.i (putP (.node s (toRows xs) (decL ys)) p (toRows zs)).2], [])
 | _, _ => none
def s31 : CSpec := fun a h => match a, h with
 | [.agg [.c (.str s), .c (.sl 5 none false xs), .c (.sl 3 none false ys)], .c (.str pf)], [] => some ([isRows xs, isL ys, decide ((entL (decL ys)).length < 1000000000)], [.c (.sl 2 none false (ents ((entP (.node s (toRows xs) (decL ys))).filter (fun e => begins e.1 pf))))], [])
 | _, _ => none
def s33 : CSpec := fun a h => match a, h with
 | [.agg [.c (.str s), .c (.sl 5 none false xs), .c (.sl 3 none false ys)], .c (.str pf), .c (.str pt)], [] => some ([isRows xs, isL ys, decide ((entL (decL ys)).length < 1000000000)], [.c (.sl 2 none false (ents ((entP (.node s (toRows xs) (decL ys))).filter (fun e => wB pf pt e.1))))], [])
 | _, _ => none
def s29p : CSpec := fun a h => match a, h with
 | [.c (.sl 2 nl tt xs), .c (.sl 2 nl2 t2 ys)], [] => some ([isEs xs, isEs ys, decide (toEs xs = toEs ys), decide (xs.length < 4294967296), rowsLen (toEs xs)], [V.b true], [])
 | _, _ => none
end Go.Proofs.YtgaabjmbnomimaaGreatDoor
namespace Go.Proofs.YtgaabjmbnomimaaGreatDoor
open Go Go.Ev
theorem insQ_del {e : Ent} (hr : e.2 = []) : ∀ {x : List Ent}, Rise x -> insQ true e x = insE x e.1 e.2
 | [], _ => by rw [insE, if_pos hr]; rfl
 | a :: r, h => by
   rw [Rise, List.pairwise_cons] at h
   rw [insQ, insE]
   cases c : Op.bytesLess a.1 e.1 with
   | true =>
     have hne : (a.1 == e.1) = false := by rw [beq_eq_false_iff_ne]; exact bl_ne c
     rw [hne, if_pos rfl]
     simp only [Bool.not_true, Bool.false_and, cond_false, List.nil_append, Bool.true_or, List.singleton_append]
     rw [insQ_del hr h.2]
   | false =>
     rw [if_neg (by simp)]
     have hgt : ∀ b ∈ r, Op.bytesLess e.1 b.1 = true := fun b hb => by
       cases d : Op.bytesLess e.1 a.1 with
       | true => exact bl_trans d (h.1 b hb)
       | false => rw [<- bl_total _ _ c d]; exact h.1 b hb
     simp only [Bool.not_true, Bool.false_and, cond_false, List.nil_append, Bool.true_or]
     rw [insQ_put hgt]
     by_cases d : a.1 = e.1
     · rw [if_pos d, if_pos hr, beq_iff_eq.2 d]; rfl
     · rw [if_neg d, if_pos hr, beq_eq_false_iff_ne.2 d]; rfl
theorem insQ_any {x : List Ent} (h : Rise x) (p : Bys) (rs : List Row) : insQ (decide (rs.length = 0)) (p, rs) x = insE x p rs := by
 by_cases k : rs = []
 · rw [decide_eq_true (List.length_eq_zero_iff.2 k)]
   exact insQ_del (e := (p, rs)) k h
 · rw [decide_eq_false (fun e => k (List.length_eq_zero_iff.1 e))]
   exact insQ_insE (e := (p, rs)) k h
theorem f25 (s : Bys) (rn : OBo) (rt : Bool) (us : List Row) (kn : OBo) (kt : Bool) (ks : List Nd) (p : Bys) (rs : List Row) (hk : (entL ks).length < 1000000000) : call E 25 [.agg [.c (.str s), .c (.sl 5 rn rt (rows us)), .c (.sl 3 kn kt (encL ks))], .c (.str p), .c (.sl 5 none false (rows rs))] [] = some ([VT (putP (.node s us ks) p rs).1, V.i (putP (.node s us ks) p rs).2], []) := by
 generalize ht : Nd.node s us ks = t at *
 have hk : (entL t.kids).length < 1000000000 := by rw [<- ht]; exact hk
 generalize hdd : depL (putR t p rs).kids + 1 = dd
 have hct : (ctOf [(70, s70), (71, s71), (72, s72), (73, s73 dd), (74, s74), (75, s75)]).ok E := ctOf_cons s70_ok (ctOf_cons s71_ok (ctOf_cons s72_ok (ctOf_cons (s73_ok dd) (ctOf_cons s74_ok (ctOf_cons s75_ok ctOf_nil)))))
 refine call_of (E := E) (sh := sh) (ct := ctOf [(70, s70), (71, s71), (72, s72), (73, s73 dd), (74, s74), (75, s75)]) (na := 3) (m := 0) hct rfl rfl rfl rfl rfl rfl ?_
 show (p25 dd).fd ((p25 dd).ft [.agg [.c (.str s), .c (.sl 5 rn rt (rows us)), .c (.sl 3 kn kt (encL ks))], .c (.str p), .c (.sl 5 none false (rows rs))] []) = some (.out _ _)
 rw [show (p25 dd).ft [.agg [.c (.str s), .c (.sl 5 rn rt (rows us)), .c (.sl 3 kn kt (encL ks))], .c (.str p), .c (.sl 5 none false (rows rs))] [] = _ from t25 dd _ _ _ _ _ _ _ _ _]
 have lt : (entT t).length < 4294967290 := by have := root_len t; omega
 have pt : (entP t).length < 1000000000 := entP_len t hk
 simp only [toRows_rows, ht, isRows_rows, isL_enc, decL_enc, fd_br, fd_chk', fd_leaf, if_true, Bool.not_eq_true', lt, decide_true]
 unfold putP
 by_cases c1 : okR t = false
 · simp [c1]; exact ⟨rfl, rfl, rfl⟩
 rw [Bool.not_eq_false] at c1
 by_cases c2 : isPath p = false
 · simp [c1, c2]; exact ⟨rfl, rfl, rfl⟩
 rw [Bool.not_eq_false] at c2
 by_cases c3 : right rs = false
 · simp [c1, c2, c3]; exact ⟨rfl, rfl, rfl⟩
 rw [Bool.not_eq_false] at c3
 obtain ⟨g1, g2⟩ := isPath_iff.1 c2
 obtain ⟨k1, k2⟩ := putR_ok c1 g1 g2 c3
 have hI : insQ (decide (rs.length = 0)) (p, rs) (entP t) = entR (putR t p rs) := by
   rw [insQ_any (gd_entP t).rise, k2, entP_R c1]
 have hlen := insQ_len (decide (rs.length = 0)) (p, rs) (entP t)
 rw [hI] at hlen
 have hl2 : (entR (putR t p rs)).length < 4294967290 := by
   have : cond (decide (rs.length = 0)) 0 1 <= 1 := by cases decide (rs.length = 0) <;> simp
   omega
 obtain ⟨b1, b2⟩ := theK_eq (d := dd) (l := entR (putR t p rs)) (n := 0) (t := (putR t p rs).kids) ⟨[], 24, (okR_iff.1 k1).2.2, by simp, by omega, rfl, by simp [pre', entR]⟩
 simp only [c1, c2, c3, root_ent c1, Bool.true_eq_false, if_false, if_true, isEs_ents, toEs_ents, ents_length, hI, b1, b2, show (entP t).length < 4294967290 by omega, show (entR (putR t p rs)).length < 4294967295 by omega, decide_true, and_self]
 refine congrArg (fun v => some (R.out [v, V.c (C.int IntKind.i64 0)] [])) ?_
 show VT (Nd.node [] [] (putR t p rs).kids) = VT (putR t p rs)
 rw [node_eta k1]
theorem refE_ent2 (t : Nd) : (if okR t = true then entT t else []) = entP t := by
 by_cases c : okR t = true
 · rw [if_pos c, root_ent c]
 · rw [if_neg c, entP]
   rw [Bool.not_eq_true] at c
   rw [c]; rfl
end Go.Proofs.YtgaabjmbnomimaaGreatDoor
namespace Go.Proofs.YtgaabjmbnomimaaGreatDoor
open Go Go.Ev
structure Cg where
 p : List UInt8
 n1 : Option Bool
 t1 : Bool
 a : List Row
 n2 : Option Bool
 t2 : Bool
 b : List Row
def Cg.enc (c : Cg) : List C := [.str c.p, .sl 5 c.n1 c.t1 (rows c.a), .sl 5 c.n2 c.t2 (rows c.b)]
def cgs (l : List Cg) : List (List C) := l.map Cg.enc
def dCg (x : List C) : Cg := ⟨(x.headD .pnil).st, (x.tail.headD .pnil).nl, (x.tail.headD .pnil).tt, toRows (x.tail.headD .pnil).xs, (x.tail.tail.headD .pnil).nl, (x.tail.tail.headD .pnil).tt, toRows (x.tail.tail.headD .pnil).xs⟩
def isCg (x : List C) : Bool := shOk [.str, .slx 5, .slx 5] x && isRows (x.tail.headD .pnil).xs && isRows (x.tail.tail.headD .pnil).xs
def isCgs (xs : LLC) : Bool := xs.all isCg
def toCgs (xs : LLC) : List Cg := xs.map dCg
theorem isCg_of {x : List C} (h : isCg x = true) : x = (dCg x).enc := by
 simp only [isCg, Bool.and_eq_true] at h
 obtain ⟨⟨h1, h2⟩, h3⟩ := h
 have h4 := shape_ok h1
 rw [Cg.enc, dCg]
 simp only
 rw [<- rows_of h2, <- rows_of h3]
 exact h4.symm
theorem cgs_ex {xs : List (List C)} (h : isCgs xs = true) : ∃ l, xs = cgs l := by
 refine ⟨toCgs xs, ?_⟩
 unfold isCgs at h
 rw [List.all_eq_true] at h
 unfold cgs toCgs
 rw [List.map_map]
 conv => lhs; rw [<- List.map_id xs]
 exact List.map_congr_left fun x hx => isCg_of (h x hx)
@[simp] theorem Cg.ok (c : Cg) : shOk [.str, .slx 5, .slx 5] c.enc = true := rfl
@[simp] theorem Cg.e_p (c : Cg) (d : C) : (c.enc.headD d).st = c.p := rfl
@[simp] theorem Cg.e_a (c : Cg) (d : C) : (c.enc.tail.headD d).xs = rows c.a := rfl
@[simp] theorem Cg.e_b (c : Cg) (d : C) : (c.enc.tail.tail.headD d).xs = rows c.b := rfl
@[simp] theorem Cg.e_n1 (c : Cg) (d : C) : (c.enc.tail.headD d).nl = c.n1 := rfl
@[simp] theorem Cg.e_n2 (c : Cg) (d : C) : (c.enc.tail.tail.headD d).nl = c.n2 := rfl
@[simp] theorem Cg.e_t1 (c : Cg) (d : C) : (c.enc.tail.headD d).tt = c.t1 := rfl
@[simp] theorem Cg.e_t2 (c : Cg) (d : C) : (c.enc.tail.tail.headD d).tt = c.t2 := rfl
theorem Cg.is (c : Cg) : isCg c.enc = true := by simp only [isCg, Cg.ok, Cg.e_a, Cg.e_b, isRows_rows, Bool.and_self]
@[simp] theorem isCgs_cgs (l : List Cg) : isCgs (cgs l) = true := by simp [isCgs, cgs, Cg.is]
theorem dCg_enc (c : Cg) : dCg c.enc = c := by simp only [dCg, Cg.e_p, Cg.e_a, Cg.e_b, Cg.e_n1, Cg.e_n2, Cg.e_t1, Cg.e_t2, toRows_rows]
@[simp] theorem toCgs_cgs (l : List Cg) : toCgs (cgs l) = l := by simp [toCgs, cgs, dCg_enc, Function.comp_def]
@[simp] theorem cgs_length (l : List Cg) : (cgs l).length = l.length := List.length_map _
theorem cgs_getD {l : List Cg} {i : Nat} (h : i < l.length) : (cgs l).getD i [] = l[i].enc := by simp [cgs, List.getD_eq_getElem?_getD, h]
def cgS (s : Sd) : Cg := ⟨s.p, rcN s.a, rcT s.a, s.a, rcN s.b, rcT s.b, s.b⟩
theorem chgs_cgs (X : List Sd) : chgs X = cgs (X.map cgS) := by simp [chgs, cgs, cgS, chgC, Cg.enc, Function.comp_def]
def mayF : List UInt8 -> List Cg -> Bool
 | _, [] => true
 | last, c :: r => (isPath c.p && Op.bytesLess last c.p && right c.a && right c.b && !decide (c.a = c.b)) && mayF c.p r
def idxC (f : Cg -> Bool) : List Cg -> Nat -> Int
 | [], _ => -1
 | c :: r, k => if f c = true then k else idxC f r (k + 1)
def otherB (t : Nd) (c : Cg) : Bool := !decide (getR t c.p = c.a)
def repF (t : Nd) (l : List Cg) : Nd := l.foldl (fun t c => (putP t c.p c.b).1) t
def repP (t : Nd) (l : List Cg) : Nd × Int := if okR t = true /\ mayF [] l = true then (if l.any (otherB t) = true then (nd0, 19) else (repF t l, 0)) else (nd0, 2)
end Go.Proofs.YtgaabjmbnomimaaGreatDoor
