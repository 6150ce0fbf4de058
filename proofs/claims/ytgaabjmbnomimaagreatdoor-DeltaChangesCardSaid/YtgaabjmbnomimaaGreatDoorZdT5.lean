/-
  Chapter 11 (delta), trees, written by a program: Replay; Chapter 11 (delta): Replay; Chapter 11, plain: the reference's Changes; Chapter 11 (delta), trees, written by a program: the reference's Changes, Replay; DeltaChanges; Chapter 11 (delta): the reference's Changes; the same changes; Chapter 11 (delta): the reference's Replay; DeltaChanges; Chapter 11 (delta): the laws, but for their arguments' reading: DeltaChanges; Chapter 11 (delta): DeltaChanges at arguments that read as tries, changes.
-/
import Derived.Test.YtgaabjmbnomimaaGreatDoorZqP1
import Derived.Test.YtgaabjmbnomimaaGreatDoorZdT1
set_option linter.all false
namespace Go.Proofs.YtgaabjmbnomimaaGreatDoor
open Go Go.Ev
-- cse
noncomputable abbrev p141 : Par := par E sh (ctOf []) 141 1 0
theorem t141 (p : Bys) : p141.ft ([V.c (C.str p)]) ([]) = (Tr.br (!p == []) (Tr.leaf (R.out [V.c (C.bool (decide ((↑p.length : Int) <= 24)))] [])) (Tr.leaf (R.out [V.c (C.bool false)] []))) := by kernel_rfl
def s141 : CSpec := fun a h => match a, h with
 | [.c (.str p)], [] => some ([], [V.b (isPath p)], [])
 | _, _ => none
noncomputable abbrev p89 : Par := par E sh (ctOf [(68, s68), (91, s91), (141, s141)]) 89 1 0
abbrev s89_0 (nl : OBo) (tt : Bool) (xs : LLC) (s3 : Bys) (i7 : Int) (i8 : Int) : Fr × Hp := ([(3, V.c (C.str s3)), (6, V.c (C.sl 3 nl tt xs)), (7, V.c (C.int IntKind.i64 i7)), (8, V.c (C.int IntKind.i64 i8))], [])
noncomputable abbrev b89_0 : Code := loopAt (codeOf E (89)) 0
abbrev x89_0x0 (sh0 : Bys) (nlh0 : OBo) (th0 : Bool) (xsh0 : LLC) (nlh0_1 : OBo) (th0_1 : Bool) (xsh0_1 : LLC) : Ex × Fr × Hp := (Ex.ret, [(2, V.c (C.bool false))], [O.box [V.c (C.str sh0), V.c (C.sl 5 nlh0 th0 xsh0), V.c (C.sl 5 nlh0_1 th0_1 xsh0_1)]])
abbrev x89_0x1 (nl : OBo) (tt : Bool) (xs : LLC) (s3 : Bys) (i7 : Int) (i8 : Int) : Ex × Fr × Hp := (Ex.exit 0, [(3, V.c (C.str s3)), (6, V.c (C.sl 3 nl tt xs)), (7, V.c (C.int IntKind.i64 i7)), (8, V.c (C.int IntKind.i64 i8)), (9, V.c (C.bool false))], [])
theorem t89_0 (nl : OBo) (tt : Bool) (xs : LLC) (s3 : Bys) (i7 : Int) (i8 : Int) : p89.lts b89_0 (s89_0 nl tt xs s3 i7 i8) = (Tr.br (decide (i8 < i7)) (Tr.chk (decide (0 <= i8)) (Tr.chk true (Tr.chk (decide (i8.toNat < xs.length)) (Tr.chk (shOk [Sk.str, Sk.slx 5, Sk.slx 5] (xs.getD i8.toNat [])) (Tr.br (!isPath ((xs.getD i8.toNat []).headD C.pnil).st) (Tr.leaf (R.x (x89_0x0 (((xs.getD i8.toNat []).headD C.pnil).st) (((xs.getD i8.toNat []).tail.headD C.pnil).nl) (((xs.getD i8.toNat []).tail.headD C.pnil).tt) (((xs.getD i8.toNat []).tail.headD C.pnil).xs) (((xs.getD i8.toNat []).tail.tail.headD C.pnil).nl) (((xs.getD i8.toNat []).tail.tail.headD C.pnil).tt) (((xs.getD i8.toNat []).tail.tail.headD C.pnil).xs)))) (Tr.br (Op.bytesLess ((xs.getD i8.toNat []).headD C.pnil).st s3 || ((xs.getD i8.toNat []).headD C.pnil).st == s3) (Tr.leaf (R.x (x89_0x0 (((xs.getD i8.toNat []).headD C.pnil).st) (((xs.getD i8.toNat []).tail.headD C.pnil).nl) (((xs.getD i8.toNat []).tail.headD C.pnil).tt) (((xs.getD i8.toNat []).tail.headD C.pnil).xs) (((xs.getD i8.toNat []).tail.tail.headD C.pnil).nl) (((xs.getD i8.toNat []).tail.tail.headD C.pnil).tt) (((xs.getD i8.toNat []).tail.tail.headD C.pnil).xs)))) (Tr.chk (isRows ((xs.getD i8.toNat []).tail.headD C.pnil).xs) (Tr.br (checkR (toRows ((xs.getD i8.toNat []).tail.headD C.pnil).xs) != 0) (Tr.leaf (R.x (x89_0x0 (((xs.getD i8.toNat []).headD C.pnil).st) (((xs.getD i8.toNat []).tail.headD C.pnil).nl) (((xs.getD i8.toNat []).tail.headD C.pnil).tt) (((xs.getD i8.toNat []).tail.headD C.pnil).xs) (((xs.getD i8.toNat []).tail.tail.headD C.pnil).nl) (((xs.getD i8.toNat []).tail.tail.headD C.pnil).tt) (((xs.getD i8.toNat []).tail.tail.headD C.pnil).xs)))) (Tr.chk (isRows ((xs.getD i8.toNat []).tail.tail.headD C.pnil).xs) (Tr.br (checkR (toRows ((xs.getD i8.toNat []).tail.tail.headD C.pnil).xs) != 0) (Tr.leaf (R.x (x89_0x0 (((xs.getD i8.toNat []).headD C.pnil).st) (((xs.getD i8.toNat []).tail.headD C.pnil).nl) (((xs.getD i8.toNat []).tail.headD C.pnil).tt) (((xs.getD i8.toNat []).tail.headD C.pnil).xs) (((xs.getD i8.toNat []).tail.tail.headD C.pnil).nl) (((xs.getD i8.toNat []).tail.tail.headD C.pnil).tt) (((xs.getD i8.toNat []).tail.tail.headD C.pnil).xs)))) (Tr.chk (isRows ((xs.getD i8.toNat []).tail.headD C.pnil).xs) (Tr.chk (isRows ((xs.getD i8.toNat []).tail.tail.headD C.pnil).xs) (Tr.chk (decide (((xs.getD i8.toNat []).tail.headD C.pnil).xs.length <= 9223372036854775807)) (Tr.br (decide (toRows ((xs.getD i8.toNat []).tail.headD C.pnil).xs = toRows ((xs.getD i8.toNat []).tail.tail.headD C.pnil).xs)) (Tr.leaf (R.x (x89_0x0 (((xs.getD i8.toNat []).headD C.pnil).st) (((xs.getD i8.toNat []).tail.headD C.pnil).nl) (((xs.getD i8.toNat []).tail.headD C.pnil).tt) (((xs.getD i8.toNat []).tail.headD C.pnil).xs) (((xs.getD i8.toNat []).tail.tail.headD C.pnil).nl) (((xs.getD i8.toNat []).tail.tail.headD C.pnil).tt) (((xs.getD i8.toNat []).tail.tail.headD C.pnil).xs)))) (Tr.leaf (R.s (s89_0 nl tt xs (((xs.getD i8.toNat []).headD C.pnil).st) i7 (IntKind.i64.wrap (i8 + 1))))))))))))))))))) (Tr.leaf (R.x (x89_0x1 nl tt xs s3 i7 i8)))) := by kernel_rfl
theorem k89_0x0 (sh0 : Bys) (nlh0 : OBo) (th0 : Bool) (xsh0 : LLC) (nlh0_1 : OBo) (th0_1 : Bool) (xsh0_1 : LLC) : p89.fkx 0 (x89_0x0 sh0 nlh0 th0 xsh0 nlh0_1 th0_1 xsh0_1) = (Tr.leaf (R.out [V.c (C.bool false)] [])) := by kernel_rfl
theorem k89_0x1 (nl : OBo) (tt : Bool) (xs : LLC) (s3 : Bys) (i7 : Int) (i8 : Int) : p89.fkx 0 (x89_0x1 nl tt xs s3 i7 i8) = (Tr.leaf (R.out [V.c (C.bool true)] [])) := by kernel_rfl
theorem t89 (nl : OBo) (tt : Bool) (xs : LLC) : p89.ft ([V.c (C.sl 3 nl tt xs)]) ([]) = (Tr.ls 0 (s89_0 nl tt xs ([]) ((↑xs.length : Int)) (0))) := by kernel_rfl
def s89 : CSpec := fun a h => match a, h with
 | [.c (.sl 3 nl tt xs)], [] => some ([isCgs xs, decide (xs.length <= 9223372036854775807)], [V.b (mayF [] (toCgs xs))], [])
 | _, _ => none
noncomputable abbrev p90 : Par := par E sh (ctOf [(27, s27), (91, s91)]) 90 2 1
theorem t90 (p : Bys) (n1 : OBo) (t1 : Bool) (us : LLC) (n2 : OBo) (t2 : Bool) (vs : LLC) (s : Bys) (rn : OBo) (rt : Bool) (xs : LLC) (kn : OBo) (kt : Bool) (ys : LLC) : p90.ft ([V.agg [V.c (C.str p), V.c (C.sl 5 n1 t1 us), V.c (C.sl 5 n2 t2 vs)], V.ptr 0 0 0 0]) ([O.box [V.c (C.str s), V.c (C.sl 5 rn rt xs), V.c (C.sl 3 kn kt ys)]]) = (Tr.chk (isRows xs) (Tr.chk (isL ys) (Tr.chk (isRows (rows (getR (Nd.node s (toRows xs) (decL ys)) p))) (Tr.chk (isRows us) (Tr.chk (decide ((rows (getR (Nd.node s (toRows xs) (decL ys)) p)).length <= 9223372036854775807)) (Tr.leaf (R.out [V.c (C.bool !decide (toRows (rows (getR (Nd.node s (toRows xs) (decL ys)) p)) = toRows us))] [O.box [V.c (C.str s), V.c (C.sl 5 rn rt xs), V.c (C.sl 3 kn kt ys)]]))))))) := by kernel_rfl
def s90 : CSpec := fun a h => match a, h with
 | [.agg [.c (.str p), .c (.sl 5 n1 t1 us), .c (.sl 5 n2 t2 vs)], .ptr 0 0 0 0], [.box [.c (.str s), .c (.sl 5 rn rt xs), .c (.sl 3 kn kt ys)]] => some ([isRows us, isRows xs, isL ys], [V.b (!decide (getR (.node s (toRows xs) (decL ys)) p = toRows us))], [.box [.c (.str s), .c (.sl 5 rn rt xs), .c (.sl 3 kn kt ys)]])
 | _, _ => none
noncomputable abbrev p142 : Par := par E sh (ctOf [(90, s90)]) 142 2 1
abbrev s142_0 (nl : OBo) (tt : Bool) (zs : LLC) (s : Bys) (rn : OBo) (rt : Bool) (xs : LLC) (kn : OBo) (kt : Bool) (ys : LLC) (i7 : Int) (i8 : Int) : Fr × Hp := ([(0, V.c (C.sl 3 nl tt zs)), (1, V.fn 90 [V.ptr 0 0 0 0]), (7, V.c (C.int IntKind.i64 i7)), (8, V.c (C.int IntKind.i64 i8))], [O.box [V.c (C.str s), V.c (C.sl 5 rn rt xs), V.c (C.sl 3 kn kt ys)]])
noncomputable abbrev b142_0 : Code := loopAt (codeOf E (142)) 0
abbrev x142_0x0 (s : Bys) (rn : OBo) (rt : Bool) (xs : LLC) (kn : OBo) (kt : Bool) (ys : LLC) (i8 : Int) : Ex × Fr × Hp := (Ex.ret, [(4, V.c (C.int IntKind.i64 i8))], [O.box [V.c (C.str s), V.c (C.sl 5 rn rt xs), V.c (C.sl 3 kn kt ys)]])
abbrev x142_0x1 (nl : OBo) (tt : Bool) (zs : LLC) (s : Bys) (rn : OBo) (rt : Bool) (xs : LLC) (kn : OBo) (kt : Bool) (ys : LLC) (i7 : Int) (i8 : Int) : Ex × Fr × Hp := (Ex.exit 0, [(0, V.c (C.sl 3 nl tt zs)), (1, V.fn 90 [V.ptr 0 0 0 0]), (7, V.c (C.int IntKind.i64 i7)), (8, V.c (C.int IntKind.i64 i8)), (9, V.c (C.bool false))], [O.box [V.c (C.str s), V.c (C.sl 5 rn rt xs), V.c (C.sl 3 kn kt ys)]])
theorem t142_0 (nl : OBo) (tt : Bool) (zs : LLC) (s : Bys) (rn : OBo) (rt : Bool) (xs : LLC) (kn : OBo) (kt : Bool) (ys : LLC) (i7 : Int) (i8 : Int) : p142.lts b142_0 (s142_0 nl tt zs s rn rt xs kn kt ys i7 i8) = (Tr.br (decide (i8 < i7)) (Tr.chk (decide (0 <= i8)) (Tr.chk true (Tr.chk (decide (i8.toNat < zs.length)) (Tr.chk (shOk [Sk.str, Sk.slx 5, Sk.slx 5] (zs.getD i8.toNat [])) (Tr.chk (isRows ((zs.getD i8.toNat []).tail.headD C.pnil).xs) (Tr.chk (isRows xs) (Tr.chk (isL ys) (Tr.br (!decide (getR (Nd.node s (toRows xs) (decL ys)) ((zs.getD i8.toNat []).headD C.pnil).st = toRows ((zs.getD i8.toNat []).tail.headD C.pnil).xs)) (Tr.leaf (R.x (x142_0x0 s rn rt xs kn kt ys i8))) (Tr.leaf (R.s (s142_0 nl tt zs s rn rt xs kn kt ys i7 (IntKind.i64.wrap (i8 + 1))))))))))))) (Tr.leaf (R.x (x142_0x1 nl tt zs s rn rt xs kn kt ys i7 i8)))) := by kernel_rfl
theorem k142_0x0 (s : Bys) (rn : OBo) (rt : Bool) (xs : LLC) (kn : OBo) (kt : Bool) (ys : LLC) (i8 : Int) : p142.fkx 0 (x142_0x0 s rn rt xs kn kt ys i8) = (Tr.leaf (R.out [V.c (C.int IntKind.i64 i8)] [O.box [V.c (C.str s), V.c (C.sl 5 rn rt xs), V.c (C.sl 3 kn kt ys)]])) := by kernel_rfl
theorem k142_0x1 (nl : OBo) (tt : Bool) (zs : LLC) (s : Bys) (rn : OBo) (rt : Bool) (xs : LLC) (kn : OBo) (kt : Bool) (ys : LLC) (i7 : Int) (i8 : Int) : p142.fkx 0 (x142_0x1 nl tt zs s rn rt xs kn kt ys i7 i8) = (Tr.leaf (R.out [V.c (C.int IntKind.i64 (-1))] [O.box [V.c (C.str s), V.c (C.sl 5 rn rt xs), V.c (C.sl 3 kn kt ys)]])) := by kernel_rfl
theorem t142 (nl : OBo) (tt : Bool) (zs : LLC) (s : Bys) (rn : OBo) (rt : Bool) (xs : LLC) (kn : OBo) (kt : Bool) (ys : LLC) : p142.ft ([V.c (C.sl 3 nl tt zs), V.fn 90 [V.ptr 0 0 0 0]]) ([O.box [V.c (C.str s), V.c (C.sl 5 rn rt xs), V.c (C.sl 3 kn kt ys)]]) = (Tr.ls 0 (s142_0 nl tt zs s rn rt xs kn kt ys ((↑zs.length : Int)) (0))) := by kernel_rfl
def s142 : CSpec := fun a h => match a, h with
 | [.c (.sl 3 nl tt zs), .fn 90 [.ptr 0 0 0 0]], [.box [.c (.str s), .c (.sl 5 rn rt xs), .c (.sl 3 kn kt ys)]] => some ([isCgs zs, isRows xs, isL ys, decide (zs.length <= 9223372036854775807)], [V.i (idxC (otherB (.node s (toRows xs) (decL ys))) (toCgs zs) 0)], [.box [.c (.str s), .c (.sl 5 rn rt xs), .c (.sl 3 kn kt ys)]])
 | _, _ => none
noncomputable abbrev p92 : Par := par E sh (ctOf [(142, s142)]) 92 2 1
theorem t92 (nl : OBo) (tt : Bool) (zs : LLC) (s : Bys) (rn : OBo) (rt : Bool) (xs : LLC) (kn : OBo) (kt : Bool) (ys : LLC) : p92.ft ([V.c (C.sl 3 nl tt zs), V.fn 90 [V.ptr 0 0 0 0]]) ([O.box [V.c (C.str s), V.c (C.sl 5 rn rt xs), V.c (C.sl 3 kn kt ys)]]) = (Tr.chk (isCgs zs) (Tr.chk (isRows xs) (Tr.chk (isL ys) (Tr.chk (decide (zs.length <= 9223372036854775807)) (Tr.leaf (R.out [V.c (C.bool (decide (0 <= idxC (otherB (Nd.node s (toRows xs) (decL ys))) (toCgs zs) 0)))] [O.box [V.c (C.str s), V.c (C.sl 5 rn rt xs), V.c (C.sl 3 kn kt ys)]])))))) := by kernel_rfl
def s92 : CSpec := fun a h => match a, h with
 | [.c (.sl 3 nl tt zs), .fn 90 [.ptr 0 0 0 0]], [.box [.c (.str s), .c (.sl 5 rn rt xs), .c (.sl 3 kn kt ys)]] => some ([isCgs zs, isRows xs, isL ys, decide (zs.length <= 9223372036854775807)], [V.b ((toCgs zs).any (otherB (.node s (toRows xs) (decL ys))))], [.box [.c (.str s), .c (.sl 5 rn rt xs), .c (.sl 3 kn kt ys)]])
 | _, _ => none
noncomputable abbrev p37 : Par := par E sh (ctOf [(24, s24), (88, s88), (89, s89), (92, s92)]) 37 2 0
abbrev s37_0 (s : Bys) (rn : OBo) (rt : Bool) (xs : LLC) (kn : OBo) (kt : Bool) (ys : LLC) (nl : OBo) (tt : Bool) (zs : LLC) (i25 : Int) (i26 : Int) (sh1 : Bys) (nlh1 : OBo) (th1 : Bool) (xsh1 : LLC) (nlh1_1 : OBo) (th1_1 : Bool) (xsh1_1 : LLC) : Fr × Hp := ([(2, V.ptr 0 0 0 0), (4, V.ptr 1 0 0 0), (24, V.c (C.sl 3 nl tt zs)), (25, V.c (C.int IntKind.i64 i25)), (26, V.c (C.int IntKind.i64 i26))], [O.box [V.c (C.str s), V.c (C.sl 5 rn rt xs), V.c (C.sl 3 kn kt ys)], O.box [V.c (C.str sh1), V.c (C.sl 5 nlh1 th1 xsh1), V.c (C.sl 3 nlh1_1 th1_1 xsh1_1)]])
noncomputable abbrev b37_0 : Code := loopAt (codeOf E (37)) 0
abbrev x37_0x0 (s : Bys) (rn : OBo) (rt : Bool) (xs : LLC) (kn : OBo) (kt : Bool) (ys : LLC) (nl : OBo) (tt : Bool) (zs : LLC) (i25 : Int) (i26 : Int) (sh1 : Bys) (nlh1 : OBo) (th1 : Bool) (xsh1 : LLC) (nlh1_1 : OBo) (th1_1 : Bool) (xsh1_1 : LLC) : Ex × Fr × Hp := (Ex.exit 0, [(2, V.ptr 0 0 0 0), (4, V.ptr 1 0 0 0), (24, V.c (C.sl 3 nl tt zs)), (25, V.c (C.int IntKind.i64 i25)), (26, V.c (C.int IntKind.i64 i26)), (27, V.c (C.bool false))], [O.box [V.c (C.str s), V.c (C.sl 5 rn rt xs), V.c (C.sl 3 kn kt ys)], O.box [V.c (C.str sh1), V.c (C.sl 5 nlh1 th1 xsh1), V.c (C.sl 3 nlh1_1 th1_1 xsh1_1)]])
theorem t37_0 (s : Bys) (rn : OBo) (rt : Bool) (xs : LLC) (kn : OBo) (kt : Bool) (ys : LLC) (nl : OBo) (tt : Bool) (zs : LLC) (i25 : Int) (i26 : Int) (sh1 : Bys) (nlh1 : OBo) (th1 : Bool) (xsh1 : LLC) (nlh1_1 : OBo) (th1_1 : Bool) (xsh1_1 : LLC) : p37.lts b37_0 (s37_0 s rn rt xs kn kt ys nl tt zs i25 i26 sh1 nlh1 th1 xsh1 nlh1_1 th1_1 xsh1_1) = (Tr.br (decide (i26 < i25)) (Tr.chk (decide (0 <= i26)) (Tr.chk true (Tr.chk (decide (i26.toNat < zs.length)) (Tr.chk (shOk [Sk.str, Sk.slx 5, Sk.slx 5] (zs.getD i26.toNat [])) (Tr.chk (isRows xs) (Tr.chk (isL ys) (Tr.chk (isRows ((zs.getD i26.toNat []).tail.tail.headD C.pnil).xs) (Tr.chk (decide (((zs.getD i26.toNat []).tail.tail.headD C.pnil).nl ≠ some true \/ ((zs.getD i26.toNat []).tail.tail.headD C.pnil).xs = [])) (Tr.leaf (R.s (s37_0 ((putP (Nd.node s (toRows xs) (decL ys)) ((zs.getD i26.toNat []).headD C.pnil).st (toRows ((zs.getD i26.toNat []).tail.tail.headD C.pnil).xs)).fst.lab) (none) false (rows (putP (Nd.node s (toRows xs) (decL ys)) ((zs.getD i26.toNat []).headD C.pnil).st (toRows ((zs.getD i26.toNat []).tail.tail.headD C.pnil).xs)).fst.rows) (none) false (encL (putP (Nd.node s (toRows xs) (decL ys)) ((zs.getD i26.toNat []).headD C.pnil).st (toRows ((zs.getD i26.toNat []).tail.tail.headD C.pnil).xs)).fst.kids) nl tt zs i25 (IntKind.i64.wrap (i26 + 1)) sh1 nlh1 th1 xsh1 nlh1_1 th1_1 xsh1_1))))))))))) (Tr.leaf (R.x (x37_0x0 s rn rt xs kn kt ys nl tt zs i25 i26 sh1 nlh1 th1 xsh1 nlh1_1 th1_1 xsh1_1)))) := by kernel_rfl
theorem k37_0x0 (s : Bys) (rn : OBo) (rt : Bool) (xs : LLC) (kn : OBo) (kt : Bool) (ys : LLC) (nl : OBo) (tt : Bool) (zs : LLC) (i25 : Int) (i26 : Int) (sh1 : Bys) (nlh1 : OBo) (th1 : Bool) (xsh1 : LLC) (nlh1_1 : OBo) (th1_1 : Bool) (xsh1_1 : LLC) : p37.fkx 0 (x37_0x0 s rn rt xs kn kt ys nl tt zs i25 i26 sh1 nlh1 th1 xsh1 nlh1_1 th1_1 xsh1_1) = (Tr.leaf (R.out [V.agg [V.c (C.str s), V.c (C.sl 5 none false xs), V.c (C.sl 3 none false ys)], V.c (C.int IntKind.i64 0)] [])) := by kernel_rfl
theorem t37 (s : Bys) (rn : OBo) (rt : Bool) (xs : LLC) (kn : OBo) (kt : Bool) (ys : LLC) (nl : OBo) (tt : Bool) (zs : LLC) : p37.ft ([V.agg [V.c (C.str s), V.c (C.sl 5 rn rt xs), V.c (C.sl 3 kn kt ys)], V.c (C.sl 3 nl tt zs)]) ([]) = (Tr.chk (isL [[C.str s, C.sl 5 rn rt xs, C.sl 3 kn kt ys]]) (Tr.chk true (Tr.br (!(decL [[C.str s, C.sl 5 rn rt xs, C.sl 3 kn kt ys]]).all okR) (Tr.leaf (R.out [V.agg [V.c (C.str []), V.c (C.sl 5 none false []), V.c (C.sl 3 none false [])], V.c (C.int IntKind.i64 2)] [])) (Tr.chk (isCgs zs) (Tr.chk (decide (zs.length <= 9223372036854775807)) (Tr.br (!mayF [] (toCgs zs)) (Tr.leaf (R.out [V.agg [V.c (C.str []), V.c (C.sl 5 none false []), V.c (C.sl 3 none false [])], V.c (C.int IntKind.i64 2)] [])) (Tr.chk (isCgs zs) (Tr.chk (isRows xs) (Tr.chk (isL ys) (Tr.chk (decide (zs.length <= 9223372036854775807)) (Tr.br ((toCgs zs).any (otherB (Nd.node s (toRows xs) (decL ys)))) (Tr.leaf (R.out [V.agg [V.c (C.str []), V.c (C.sl 5 none false []), V.c (C.sl 3 none false [])], V.c (C.int IntKind.i64 19)] [])) (Tr.ls 0 (s37_0 s rn rt xs kn kt ys nl tt zs ((↑zs.length : Int)) (0) ([]) (some true) true ([]) (some true) true ([])))))))))))))) := by kernel_rfl
end Go.Proofs.YtgaabjmbnomimaaGreatDoor
namespace Go.Proofs.YtgaabjmbnomimaaGreatDoor
open Go Go.Ev
theorem f141 (p : Bys) : call E 141 [.c (.str p)] [] = some ([V.b (isPath p)], []) := by
 refine call_of (E := E) (sh := sh) (ct := ctOf []) (na := 1) (m := 0) ctOf_nil rfl rfl rfl rfl rfl rfl ?_
 rw [t141]
 simp only [ld_br, ld_chk', ld_leaf, fd_br, fd_chk', fd_leaf, decide_true, decide_eq_true_eq, if_true, Int.toNat_natCast, Int.natCast_nonneg, Int.ofNat_lt, Int.ofNat_le, Bool.false_eq_true, if_false, bne_iff_ne, beq_iff_eq, ne_eq, not_true_eq_false, not_false_eq_true, Bool.not_eq_true', decide_eq_false_iff_not, reduceCtorEq, rows_length, er_ok, er_ok', dr_er, isRows_rows, toRows_rows, rows_take, rows_drop, rows_append, ints_length, isInts_ints, toInts_ints, ei_i, ei_ok, mk_headD, ints_take, ints_drop, ints_append, ints_snoc, ints_snoc', List.take_length, Nat.zero_add, Nat.le_refl, er_a, er_b, er_k, er_n, er_s, er_v]
 unfold isPath
 by_cases h : p = []
 · subst h; rfl
 · have : ((p.length : Int) <= 24) ↔ (p.length <= 24) := by omega
   simp [h, this]
theorem s141_ok : CSpecOk E 141 s141 := by
 intro a h cs vals h' he hc
 unfold s141 at he
 split at he <;> simp only [Option.some.injEq, Prod.mk.injEq, reduceCtorEq] at he
 obtain ⟨rfl, rfl, rfl⟩ := he
 exact f141 _
theorem mayF_drop {l : List Cg} {k : Nat} (h : k < l.length) (last : Bys) : mayF last (l.drop k) = ((isPath l[k].p && Op.bytesLess last l[k].p && right l[k].a && right l[k].b && !decide (l[k].a = l[k].b)) && mayF l[k].p (l.drop (k + 1))) := by
 rw [List.drop_eq_getElem_cons h, mayF]
theorem bl_not (a b : Bys) : (Op.bytesLess a b || a == b) = !Op.bytesLess b a := by
 cases h : Op.bytesLess a b with
 | true => rw [bl_asymm h]; rfl
 | false =>
   cases k : Op.bytesLess b a with
   | true => rw [beq_eq_false_iff_ne.2 (fun e => bl_ne k e.symm)]; rfl
   | false => rw [bl_total _ _ h k]; simp
theorem f89 (nl : OBo) (tt : Bool) (l : List Cg) (hl : l.length <= 9223372036854775807) : call E 89 [.c (.sl 3 nl tt (cgs l))] [] = some ([V.b (mayF [] l)], []) := by
 have hct : (ctOf [(68, s68), (91, s91), (141, s141)]).ok E := ctOf_cons s68_ok (ctOf_cons s91_ok (ctOf_cons s141_ok ctOf_nil))
 refine call_of (E := E) (sh := sh) (ct := ctOf [(68, s68), (91, s91), (141, s141)]) (na := 1) (m := 0) hct rfl rfl rfl rfl rfl rfl ?_
 rw [t89, cgs_length]
 refine fd_post hct (by kernel_rfl) rfl (list_post (p := p89) hct (b := b89_0) l.length (fun k (last : Bys) => s89_0 nl tt (cgs l) last l.length k) (fun k last => mayF last (l.drop k) = mayF [] l) _ ?_ ?_ 0 (Nat.zero_le _) [] rfl)
 · intro k last hk hi
   rw [mayF_drop hk] at hi
   have bad : mayF [] l = false -> ∃ x : Ex × Fr × Hp, x.1 ≠ .nrm /\ p89.fd (p89.fkx 0 x) = some (.out [V.b (mayF [] l)] []) /\ some (R.x (x89_0x0 l[k].p l[k].n1 l[k].t1 (rows l[k].a) l[k].n2 l[k].t2 (rows l[k].b))) = some (R.x x) := fun h =>
     ⟨x89_0x0 l[k].p l[k].n1 l[k].t1 (rows l[k].a) l[k].n2 l[k].t2 (rows l[k].b), by simp, by rw [k89_0x0, fd_leaf, h], rfl⟩
   have go : p89.ld b89_0 (p89.lts b89_0 (s89_0 nl tt (cgs l) last l.length k)) = if (isPath l[k].p && Op.bytesLess last l[k].p && right l[k].a && right l[k].b && !decide (l[k].a = l[k].b)) = true then some (R.s (s89_0 nl tt (cgs l) l[k].p l.length ((k + 1 : Nat) : Int))) else some (R.x (x89_0x0 l[k].p l[k].n1 l[k].t1 (rows l[k].a) l[k].n2 l[k].t2 (rows l[k].b))) := by
     rw [t89_0]
     simp only [ld_br, ld_chk', ld_leaf, fd_br, fd_chk', fd_leaf, decide_true, decide_eq_true_eq, if_true, Int.toNat_natCast, Int.natCast_nonneg, Int.ofNat_lt, Int.ofNat_le, Bool.false_eq_true, if_false, bne_iff_ne, beq_iff_eq, ne_eq, not_true_eq_false, not_false_eq_true, Bool.not_eq_true', decide_eq_false_iff_not, reduceCtorEq, rows_length, er_ok, er_ok', dr_er, isRows_rows, toRows_rows, rows_take, rows_drop, rows_append, ints_length, isInts_ints, toInts_ints, ei_i, ei_ok, mk_headD, ints_take, ints_drop, ints_append, ints_snoc, ints_snoc', List.take_length, Nat.zero_add, Nat.le_refl, er_a, er_b, er_k, er_n, er_s, er_v, cgs_length, hk, cgs_getD hk, Cg.ok, Cg.e_p, Cg.e_a, Cg.e_b, Cg.e_n1, Cg.e_n2, Cg.e_t1, Cg.e_t2, bl_not, checkR_ne, wrap_succ (show k < 9223372036854775807 by omega)]
     cases h1 : isPath l[k].p with
     | false => simp
     | true =>
       cases h2 : Op.bytesLess last l[k].p with
       | false => simp
       | true =>
         cases h3 : right l[k].a with
         | false => simp
         | true =>
           have := right_len63 h3
           cases h4 : right l[k].b with
           | false => simp
           | true =>
             by_cases h5 : l[k].a = l[k].b
             · rw [h5] at this; simp [h5, this]
             · simp [h5, this]
   cases hc : (isPath l[k].p && Op.bytesLess last l[k].p && right l[k].a && right l[k].b && !decide (l[k].a = l[k].b)) with
   | true =>
     rw [hc, if_pos rfl] at go
     rw [hc, Bool.true_and] at hi
     exact .inl ⟨l[k].p, hi, go⟩
   | false =>
     rw [hc, if_neg (by simp)] at go
     rw [hc, Bool.false_and] at hi
     rw [go]
     exact .inr (bad hi.symm)
 · intro last hi
   rw [List.drop_length, mayF] at hi
   refine ⟨x89_0x1 nl tt (cgs l) last l.length l.length, by simp, by rw [k89_0x1, fd_leaf, <- hi], ?_⟩
   rw [t89_0]
   simp only [ld_br, ld_chk', ld_leaf, fd_br, fd_chk', fd_leaf, decide_true, decide_eq_true_eq, if_true, Int.toNat_natCast, Int.natCast_nonneg, Int.ofNat_lt, Int.ofNat_le, Bool.false_eq_true, if_false, bne_iff_ne, beq_iff_eq, ne_eq, not_true_eq_false, not_false_eq_true, Bool.not_eq_true', decide_eq_false_iff_not, reduceCtorEq, rows_length, er_ok, er_ok', dr_er, isRows_rows, toRows_rows, rows_take, rows_drop, rows_append, ints_length, isInts_ints, toInts_ints, ei_i, ei_ok, mk_headD, ints_take, ints_drop, ints_append, ints_snoc, ints_snoc', List.take_length, Nat.zero_add, Nat.le_refl, er_a, er_b, er_k, er_n, er_s, er_v, Int.lt_irrefl]
theorem s89_ok : CSpecOk E 89 s89 := by
 intro a h cs vals h' he hc
 unfold s89 at he
 split at he <;> simp only [Option.some.injEq, Prod.mk.injEq, reduceCtorEq] at he
 rename_i nl tt xs
 obtain ⟨rfl, rfl, rfl⟩ := he
 simp only [allT, Bool.and_true, Bool.and_eq_true, decide_eq_true_eq] at hc
 obtain ⟨h1, h2⟩ := hc
 obtain ⟨l, rfl⟩ := cgs_ex h1
 rw [cgs_length] at h2
 simp only [toCgs_cgs]
 exact f89 nl tt l h2
theorem f90 (p : Bys) (n1 : OBo) (t1 : Bool) (a : List Row) (n2 : OBo) (t2 : Bool) (vs : LLC) (s : Bys) (rn : OBo) (rt : Bool) (rs : List Row) (kn : OBo) (kt : Bool) (ks : List Nd) :
   call E 90 [.agg [.c (.str p), .c (.sl 5 n1 t1 (rows a)), .c (.sl 5 n2 t2 vs)], .ptr 0 0 0 0] [.box [.c (.str s), .c (.sl 5 rn rt (rows rs)), .c (.sl 3 kn kt (encL ks))]] = some ([V.b (!decide (getR (.node s rs ks) p = a))], [.box [.c (.str s), .c (.sl 5 rn rt (rows rs)), .c (.sl 3 kn kt (encL ks))]]) := by
 refine call_of (E := E) (sh := sh) (ct := ctOf [(27, s27), (91, s91)]) (na := 2) (m := 1) (ctOf_cons s27_ok (ctOf_cons s91_ok ctOf_nil)) rfl rfl rfl rfl rfl rfl ?_
 rw [t90]
 have hl : (getR (.node s rs ks) p).length <= 9223372036854775807 := by rw [getR_P]; exact right_len63 (look_right (gd_entP _) _)
 simp only [nd_ok, nd_lab, nd_rows, nd_kids, encL_length, isL_enc, decL_enc, wrap_hd, hd_pos, ld_br, ld_chk', ld_leaf, fd_br, fd_chk', fd_leaf, decide_true, decide_eq_true_eq, if_true, Int.toNat_natCast, Int.natCast_nonneg, Int.ofNat_lt, Int.ofNat_le, Bool.false_eq_true, if_false, bne_iff_ne, beq_iff_eq, ne_eq, not_true_eq_false, not_false_eq_true, Bool.not_eq_true', decide_eq_false_iff_not, reduceCtorEq, rows_length, er_ok, er_ok', dr_er, isRows_rows, toRows_rows, rows_take, rows_drop, rows_append, ints_length, isInts_ints, toInts_ints, ei_i, ei_ok, mk_headD, ints_take, ints_drop, ints_append, ints_snoc, ints_snoc', List.take_length, Nat.zero_add, Nat.le_refl, er_a, er_b, er_k, er_n, er_s, er_v, hl]
theorem s90_ok : CSpecOk E 90 s90 := by
 intro a h cs vals h' he hc
 unfold s90 at he
 split at he <;> simp only [Option.some.injEq, Prod.mk.injEq, reduceCtorEq] at he
 rename_i p n1 t1 us n2 t2 vs s rn rt xs kn kt ys
 obtain ⟨rfl, rfl, rfl⟩ := he
 simp only [allT, Bool.and_true, Bool.and_eq_true, decide_eq_true_eq] at hc
 obtain ⟨h1, h2, h3⟩ := hc
 obtain ⟨a, rfl⟩ := rows_ex h1
 obtain ⟨rs, rfl⟩ := rows_ex h2
 obtain ⟨ks, rfl⟩ := isL_ex h3
 simp only [toRows_rows, decL_enc]
 exact f90 p n1 t1 a n2 t2 vs s rn rt rs kn kt ks
theorem idxC_drop (f : Cg -> Bool) {l : List Cg} {k : Nat} (j : Nat) (hk : k < l.length) : idxC f (l.drop k) j = if f l[k] = true then (j : Int) else idxC f (l.drop (k + 1)) (j + 1) := by
 rw [List.drop_eq_getElem_cons hk, idxC]
theorem f142 (nl : OBo) (tt : Bool) (l : List Cg) (hl : l.length <= 9223372036854775807) (s : Bys) (rn : OBo) (rt : Bool) (rs : List Row) (kn : OBo) (kt : Bool) (ks : List Nd) :
   call E 142 [.c (.sl 3 nl tt (cgs l)), .fn 90 [.ptr 0 0 0 0]] [.box [.c (.str s), .c (.sl 5 rn rt (rows rs)), .c (.sl 3 kn kt (encL ks))]] = some ([V.i (idxC (otherB (.node s rs ks)) l 0)], [.box [.c (.str s), .c (.sl 5 rn rt (rows rs)), .c (.sl 3 kn kt (encL ks))]]) := by
 have hct : (ctOf [(90, s90)]).ok E := ctOf_cons s90_ok ctOf_nil
 refine call_of (E := E) (sh := sh) (ct := ctOf [(90, s90)]) (na := 2) (m := 1) hct rfl rfl rfl rfl rfl rfl ?_
 rw [t142, cgs_length]
 refine fd_post hct (by kernel_rfl) rfl (list_post (p := p142) hct (b := b142_0) l.length (fun k (_ : Unit) => s142_0 nl tt (cgs l) s rn rt (rows rs) kn kt (encL ks) l.length k) (fun k _ => idxC (otherB (.node s rs ks)) (l.drop k) k = idxC (otherB (.node s rs ks)) l 0) _ ?_ ?_ 0 (Nat.zero_le _) () rfl)
 · intro k _ hk hi
   rw [idxC_drop _ _ hk] at hi
   have go : p142.ld b142_0 (p142.lts b142_0 (s142_0 nl tt (cgs l) s rn rt (rows rs) kn kt (encL ks) l.length k)) = if otherB (.node s rs ks) l[k] = true then some (R.x (x142_0x0 s rn rt (rows rs) kn kt (encL ks) k)) else some (R.s (s142_0 nl tt (cgs l) s rn rt (rows rs) kn kt (encL ks) l.length ((k + 1 : Nat) : Int))) := by
     rw [t142_0]
     simp only [nd_ok, nd_lab, nd_rows, nd_kids, encL_length, isL_enc, decL_enc, wrap_hd, hd_pos, ld_br, ld_chk', ld_leaf, fd_br, fd_chk', fd_leaf, decide_true, decide_eq_true_eq, if_true, Int.toNat_natCast, Int.natCast_nonneg, Int.ofNat_lt, Int.ofNat_le, Bool.false_eq_true, if_false, bne_iff_ne, beq_iff_eq, ne_eq, not_true_eq_false, not_false_eq_true, Bool.not_eq_true', decide_eq_false_iff_not, reduceCtorEq, rows_length, er_ok, er_ok', dr_er, isRows_rows, toRows_rows, rows_take, rows_drop, rows_append, ints_length, isInts_ints, toInts_ints, ei_i, ei_ok, mk_headD, ints_take, ints_drop, ints_append, ints_snoc, ints_snoc', List.take_length, Nat.zero_add, Nat.le_refl, er_a, er_b, er_k, er_n, er_s, er_v, cgs_length, hk, cgs_getD hk, Cg.ok, Cg.e_p, Cg.e_a, otherB, wrap_succ (show k < 9223372036854775807 by omega)]
   cases c : otherB (.node s rs ks) l[k] with
   | false =>
     rw [c] at hi go
     exact .inl ⟨(), by simpa using hi, by rw [go]; rfl⟩
   | true =>
     rw [c] at hi go
     refine .inr ⟨x142_0x0 s rn rt (rows rs) kn kt (encL ks) k, by simp, ?_, by rw [go]; rfl⟩
     rw [k142_0x0, fd_leaf, <- hi]; rfl
 · intro _ hi
   rw [List.drop_length] at hi
   refine ⟨x142_0x1 nl tt (cgs l) s rn rt (rows rs) kn kt (encL ks) l.length l.length, by simp, by rw [k142_0x1, fd_leaf, <- hi]; rfl, ?_⟩
   rw [t142_0]
   simp only [nd_ok, nd_lab, nd_rows, nd_kids, encL_length, isL_enc, decL_enc, wrap_hd, hd_pos, ld_br, ld_chk', ld_leaf, fd_br, fd_chk', fd_leaf, decide_true, decide_eq_true_eq, if_true, Int.toNat_natCast, Int.natCast_nonneg, Int.ofNat_lt, Int.ofNat_le, Bool.false_eq_true, if_false, bne_iff_ne, beq_iff_eq, ne_eq, not_true_eq_false, not_false_eq_true, Bool.not_eq_true', decide_eq_false_iff_not, reduceCtorEq, rows_length, er_ok, er_ok', dr_er, isRows_rows, toRows_rows, rows_take, rows_drop, rows_append, ints_length, isInts_ints, toInts_ints, ei_i, ei_ok, mk_headD, ints_take, ints_drop, ints_append, ints_snoc, ints_snoc', List.take_length, Nat.zero_add, Nat.le_refl, er_a, er_b, er_k, er_n, er_s, er_v, Int.lt_irrefl]
theorem s142_ok : CSpecOk E 142 s142 := by
 intro a h cs vals h' he hc
 unfold s142 at he
 split at he <;> simp only [Option.some.injEq, Prod.mk.injEq, reduceCtorEq] at he
 rename_i nl tt zs s rn rt xs kn kt ys
 obtain ⟨rfl, rfl, rfl⟩ := he
 simp only [allT, Bool.and_true, Bool.and_eq_true, decide_eq_true_eq] at hc
 obtain ⟨h1, h2, h3, h4⟩ := hc
 obtain ⟨l, rfl⟩ := cgs_ex h1
 obtain ⟨rs, rfl⟩ := rows_ex h2
 obtain ⟨ks, rfl⟩ := isL_ex h3
 rw [cgs_length] at h4
 simp only [toRows_rows, decL_enc, toCgs_cgs]
 exact f142 nl tt l h4 s rn rt rs kn kt ks
theorem idxC_any (f : Cg -> Bool) (l : List Cg) (j : Nat) : decide (0 <= idxC f l j) = l.any f := by
 induction l generalizing j with
 | nil => rfl
 | cons t r ih =>
   rw [idxC, List.any_cons]
   cases c : f t with
   | false => simpa using ih (j + 1)
   | true => simp
theorem f92 (nl : OBo) (tt : Bool) (l : List Cg) (hl : l.length <= 9223372036854775807) (s : Bys) (rn : OBo) (rt : Bool) (rs : List Row) (kn : OBo) (kt : Bool) (ks : List Nd) :
   call E 92 [.c (.sl 3 nl tt (cgs l)), .fn 90 [.ptr 0 0 0 0]] [.box [.c (.str s), .c (.sl 5 rn rt (rows rs)), .c (.sl 3 kn kt (encL ks))]] = some ([V.b (l.any (otherB (.node s rs ks)))], [.box [.c (.str s), .c (.sl 5 rn rt (rows rs)), .c (.sl 3 kn kt (encL ks))]]) := by
 refine call_of (E := E) (sh := sh) (ct := ctOf [(142, s142)]) (na := 2) (m := 1) (ctOf_cons s142_ok ctOf_nil) rfl rfl rfl rfl rfl rfl ?_
 rw [t92]
 simp only [nd_ok, nd_lab, nd_rows, nd_kids, encL_length, isL_enc, decL_enc, wrap_hd, hd_pos, ld_br, ld_chk', ld_leaf, fd_br, fd_chk', fd_leaf, decide_true, decide_eq_true_eq, if_true, Int.toNat_natCast, Int.natCast_nonneg, Int.ofNat_lt, Int.ofNat_le, Bool.false_eq_true, if_false, bne_iff_ne, beq_iff_eq, ne_eq, not_true_eq_false, not_false_eq_true, Bool.not_eq_true', decide_eq_false_iff_not, reduceCtorEq, rows_length, er_ok, er_ok', dr_er, isRows_rows, toRows_rows, rows_take, rows_drop, rows_append, ints_length, isInts_ints, toInts_ints, ei_i, ei_ok, mk_headD, ints_take, ints_drop, ints_append, ints_snoc, ints_snoc', List.take_length, Nat.zero_add, Nat.le_refl, er_a, er_b, er_k, er_n, er_s, er_v, cgs_length, isCgs_cgs, toCgs_cgs, hl, idxC_any]
theorem s92_ok : CSpecOk E 92 s92 := by
 intro a h cs vals h' he hc
 unfold s92 at he
 split at he <;> simp only [Option.some.injEq, Prod.mk.injEq, reduceCtorEq] at he
 rename_i nl tt zs s rn rt xs kn kt ys
 obtain ⟨rfl, rfl, rfl⟩ := he
 simp only [allT, Bool.and_true, Bool.and_eq_true, decide_eq_true_eq] at hc
 obtain ⟨h1, h2, h3, h4⟩ := hc
 obtain ⟨l, rfl⟩ := cgs_ex h1
 obtain ⟨rs, rfl⟩ := rows_ex h2
 obtain ⟨ks, rfl⟩ := isL_ex h3
 rw [cgs_length] at h4
 simp only [toRows_rows, decL_enc, toCgs_cgs]
 exact f92 nl tt l h4 s rn rt rs kn kt ks
theorem f37 (t : Nd) (nl : OBo) (tt : Bool) (l : List Cg) (hl : l.length <= 9223372036854775807) (hn : ∀ c ∈ l, c.n2 ≠ some true \/ rows c.b = []) :
   call E 37 [VT t, .c (.sl 3 nl tt (cgs l))] [] = some ([VT (repP t l).1, V.i (repP t l).2], []) := by
 have hct : (ctOf [(24, s24), (88, s88), (89, s89), (92, s92)]).ok E := ctOf_cons s24_ok (ctOf_cons s88_ok (ctOf_cons s89_ok (ctOf_cons s92_ok ctOf_nil)))
 refine call_of (E := E) (sh := sh) (ct := ctOf [(24, s24), (88, s88), (89, s89), (92, s92)]) (na := 2) (m := 0) hct rfl rfl rfl rfl rfl rfl ?_
 show p37.fd (p37.ft [VT t, .c (.sl 3 nl tt (cgs l))] []) = some (.out _ _)
 rw [show p37.ft [VT t, .c (.sl 3 nl tt (cgs l))] [] = _ from t37 _ _ _ _ _ _ _ _ _ _]
 have hL : ([[C.str t.lab, C.sl 5 none false (rows t.rows), C.sl 3 none false (encL t.kids)]] : LLC) = encL [t] := by simp only [encL, Nd.enc_eq]
 rw [hL]
 simp only [nd_ok, nd_lab, nd_rows, nd_kids, encL_length, isL_enc, decL_enc, wrap_hd, hd_pos, ld_br, ld_chk', ld_leaf, fd_br, fd_chk', fd_leaf, decide_true, decide_eq_true_eq, if_true, Int.toNat_natCast, Int.natCast_nonneg, Int.ofNat_lt, Int.ofNat_le, Bool.false_eq_true, if_false, bne_iff_ne, beq_iff_eq, ne_eq, not_true_eq_false, not_false_eq_true, Bool.not_eq_true', decide_eq_false_iff_not, reduceCtorEq, rows_length, er_ok, er_ok', dr_er, isRows_rows, toRows_rows, rows_take, rows_drop, rows_append, ints_length, isInts_ints, toInts_ints, ei_i, ei_ok, mk_headD, ints_take, ints_drop, ints_append, ints_snoc, ints_snoc', List.take_length, Nat.zero_add, Nat.le_refl, er_a, er_b, er_k, er_n, er_s, er_v, Nd.eta, List.all_cons, List.all_nil, Bool.and_true, isCgs_cgs, toCgs_cgs, cgs_length, hl]
 unfold repP
 by_cases o1 : okR t = false
 · rw [if_pos o1, if_neg (by simp [o1])]; rfl
 rw [if_neg o1]
 by_cases o2 : mayF [] l = false
 · rw [if_pos o2, if_neg (by simp [o2])]; rfl
 rw [if_neg o2]
 rw [Bool.not_eq_false] at o1 o2
 have h12 : okR t = true /\ mayF [] l = true := ⟨o1, o2⟩
 rw [if_pos h12]
 by_cases o3 : l.any (otherB t) = true
 · rw [if_pos o3, if_pos o3]; rfl
 rw [if_neg o3, if_neg o3]
 refine fd_post hct (by kernel_rfl) rfl (list_post (p := p37) hct (b := b37_0) l.length (fun k (u : Nd) => s37_0 u.lab none false (rows u.rows) none false (encL u.kids) nl tt (cgs l) l.length k [] (some true) true [] (some true) true []) (fun k u => repF u (l.drop k) = repF t l) _ ?_ ?_ 0 (Nat.zero_le _) t rfl)
 · intro k u hk hi
   left
   rw [List.drop_eq_getElem_cons hk] at hi
   refine ⟨(putP u l[k].p l[k].b).1, hi, ?_⟩
   rw [t37_0]
   simp only [nd_ok, nd_lab, nd_rows, nd_kids, encL_length, isL_enc, decL_enc, wrap_hd, hd_pos, ld_br, ld_chk', ld_leaf, fd_br, fd_chk', fd_leaf, decide_true, decide_eq_true_eq, if_true, Int.toNat_natCast, Int.natCast_nonneg, Int.ofNat_lt, Int.ofNat_le, Bool.false_eq_true, if_false, bne_iff_ne, beq_iff_eq, ne_eq, not_true_eq_false, not_false_eq_true, Bool.not_eq_true', decide_eq_false_iff_not, reduceCtorEq, rows_length, er_ok, er_ok', dr_er, isRows_rows, toRows_rows, rows_take, rows_drop, rows_append, ints_length, isInts_ints, toInts_ints, ei_i, ei_ok, mk_headD, ints_take, ints_drop, ints_append, ints_snoc, ints_snoc', List.take_length, Nat.zero_add, Nat.le_refl, er_a, er_b, er_k, er_n, er_s, er_v, Nd.eta, cgs_length, hk, cgs_getD hk, Cg.ok, Cg.e_p, Cg.e_b, Cg.e_n2, hn _ (List.getElem_mem hk), wrap_succ (show k < 9223372036854775807 by omega)]
 · intro u hi
   rw [List.drop_length] at hi
   have hi : u = repF t l := hi
   subst hi
   refine ⟨x37_0x0 (repF t l).lab none false (rows (repF t l).rows) none false (encL (repF t l).kids) nl tt (cgs l) l.length l.length [] (some true) true [] (some true) true [], by simp, by rw [k37_0x0, fd_leaf], ?_⟩
   rw [t37_0]
   simp only [nd_ok, nd_lab, nd_rows, nd_kids, encL_length, isL_enc, decL_enc, wrap_hd, hd_pos, ld_br, ld_chk', ld_leaf, fd_br, fd_chk', fd_leaf, decide_true, decide_eq_true_eq, if_true, Int.toNat_natCast, Int.natCast_nonneg, Int.ofNat_lt, Int.ofNat_le, Bool.false_eq_true, if_false, bne_iff_ne, beq_iff_eq, ne_eq, not_true_eq_false, not_false_eq_true, Bool.not_eq_true', decide_eq_false_iff_not, reduceCtorEq, rows_length, er_ok, er_ok', dr_er, isRows_rows, toRows_rows, rows_take, rows_drop, rows_append, ints_length, isInts_ints, toInts_ints, ei_i, ei_ok, mk_headD, ints_take, ints_drop, ints_append, ints_snoc, ints_snoc', List.take_length, Nat.zero_add, Nat.le_refl, er_a, er_b, er_k, er_n, er_s, er_v, Int.lt_irrefl]
end Go.Proofs.YtgaabjmbnomimaaGreatDoor
namespace Go.Proofs.YtgaabjmbnomimaaGreatDoor
open Go Go.Ev
def refC : List Ent -> List Ent -> List Sd
 | [], [] => []
 | e :: x, [] => ⟨e.1, e.2, [], []⟩ :: refC x []
 | [], f :: y => ⟨f.1, [], f.2, []⟩ :: refC [] y
 | e :: x, f :: y => if Op.bytesLess e.1 f.1 = true then ⟨e.1, e.2, [], []⟩ :: refC x (f :: y) else if Op.bytesLess f.1 e.1 = true then ⟨f.1, [], f.2, []⟩ :: refC (e :: x) y
   else (if e.2 = f.2 then [] else [⟨e.1, e.2, f.2, []⟩]) ++ refC x y
termination_by x y => x.length + y.length
theorem leastP_cons {p : List UInt8} (hp : p ≠ []) (f : Ent) (y : List Ent) : leastP p (f :: y) = cond (Op.bytesLess f.1 p) f.1 p := by
 cases p with
 | nil => exact absurd rfl hp
 | cons b q => rfl
theorem refC_sides : ∀ (n : Nat) (x y : List Ent), x.length + y.length < n -> (∀ e ∈ x, e.1 ≠ [] /\ e.2 ≠ []) -> (∀ e ∈ y, e.1 ≠ [] /\ e.2 ≠ []) -> refC x y = (sidesF n x y []).filter fun s => decide (s.a ≠ s.b)
 | 0, _, _, h, _, _ => by omega
 | n + 1, [], [], _, _, _ => by rw [refC, sidesF_end n rfl]; rfl
 | n + 1, e :: x, [], h, hx, _ => by
   have he := hx e (by simp)
   simp only [List.length_cons, List.length_nil] at h
   rw [refC, sidesF_step n (p := e.1) rfl he.1, List.filter_cons, refC_sides n x [] (by simp; omega) (fun a ha => hx a (by simp [ha])) (by simp)]
   simp only [headP, tailP, beq_self_eq_true, cond_true]
   rw [if_pos (by simpa using he.2)]
 | n + 1, [], f :: y, h, _, hy => by
   have hf := hy f (by simp)
   simp only [List.length_cons, List.length_nil] at h
   rw [refC, sidesF_step n (p := f.1) rfl hf.1, List.filter_cons, refC_sides n [] y (by simp; omega) (by simp) (fun a ha => hy a (by simp [ha]))]
   simp only [headP, tailP, beq_self_eq_true, cond_true]
   rw [if_pos (by simpa using Ne.symm hf.2)]
 | n + 1, e :: x, f :: y, h, hx, hy => by
   have he := hx e (by simp)
   have hf := hy f (by simp)
   simp only [List.length_cons] at h
   have hx' : ∀ a ∈ x, a.1 ≠ [] /\ a.2 ≠ [] := fun a ha => hx a (by simp [ha])
   have hy' : ∀ a ∈ y, a.1 ≠ [] /\ a.2 ≠ [] := fun a ha => hy a (by simp [ha])
   have hl : leastP (leastP (leastP [] (e :: x)) (f :: y)) [] = cond (Op.bytesLess f.1 e.1) f.1 e.1 := leastP_cons he.1 f y
   rw [refC]
   by_cases c1 : Op.bytesLess e.1 f.1 = true
   · have c2 : Op.bytesLess f.1 e.1 = false := bl_asymm c1
     rw [c2, cond_false] at hl
     have hne : (f.1 == e.1) = false := by rw [beq_eq_false_iff_ne]; exact fun k => bl_ne c1 k.symm
     rw [if_pos c1, sidesF_step n hl he.1, List.filter_cons, refC_sides n x (f :: y) (by simp; omega) hx' hy]
     simp only [headP, tailP, beq_self_eq_true, cond_true, hne, cond_false]
     rw [if_pos (by simpa using he.2)]
   rw [if_neg c1]
   by_cases c2 : Op.bytesLess f.1 e.1 = true
   · rw [c2, cond_true] at hl
     have hne : (e.1 == f.1) = false := by rw [beq_eq_false_iff_ne]; exact fun k => bl_ne c2 k.symm
     rw [if_pos c2, sidesF_step n hl hf.1, List.filter_cons, refC_sides n (e :: x) y (by simp; omega) hx hy']
     simp only [headP, tailP, beq_self_eq_true, cond_true, hne, cond_false]
     rw [if_pos (by simpa using Ne.symm hf.2)]
   · rw [Bool.not_eq_true] at c1 c2
     have heq : e.1 = f.1 := bl_total _ _ c1 c2
     rw [c2, cond_false] at hl
     rw [if_neg (by simp [c2]), sidesF_step n hl he.1, List.filter_cons, refC_sides n x y (by omega) hx' hy']
     simp only [headP, tailP, beq_self_eq_true, cond_true, <- heq]
     by_cases c3 : e.2 = f.2
     · rw [if_pos c3, if_neg (by simp [c3])]; rfl
     · rw [if_neg c3, if_pos (by simpa using c3)]; rfl
theorem refC_chg (a b : Nd) : refC (entP a) (entP b) = chgT a b := by
 have ga := gd_entP a
 have gb := gd_entP b
 exact refC_sides _ _ _ (by simp) (fun e he => ⟨ga.pne e he, ga.rne e he⟩) (fun e he => ⟨gb.pne e he, gb.rne e he⟩)
end Go.Proofs.YtgaabjmbnomimaaGreatDoor
namespace Go.Proofs.YtgaabjmbnomimaaGreatDoor
open Go Go.Ev
-- cse
set_option maxHeartbeats 4000000
def rneB (l : List Ent) : Bool := l.all fun e => !e.2.isEmpty
def cgLen (l : List Cg) : Bool := l.all fun c => decide (c.a.length <= 9223372036854775807) && decide (c.b.length <= 9223372036854775807)
def cgNN (l : List Cg) : Bool := l.all fun c => decide (c.n2 = none) && decide (c.t2 = false)
def s25q : CSpec := fun a h => match a, h with
 | [.agg [.c (.str s), .c (.sl 5 rn rt xs), .c (.sl 3 kn kt ys)], .c (.str p), .c (.sl 5 qn qt zs)], [] => some ([decide (qn = none), decide (qt = false), isRows xs, isL ys, isRows zs, decide ((entL (decL ys)).length < 1000000000)], [VT (putP (.node s (toRows xs) (decL ys)) p (toRows zs)).1, V.i (putP (.node s (toRows xs) (decL ys)) p (toRows zs)).2], [])
 | _, _ => none
noncomputable abbrev p94 : Par := par E sh (ctOf [(26, s26)]) 94 2 0
abbrev s94_0 (nl : OBo) (tt : Bool) (xs : LLC) (nl2 : OBo) (t2 : Bool) (ys : LLC) (n5 : Nat) (i6 : Int) (i7 : Int) (ys0 : LLC) : Fr × Hp := ([(0, V.c (C.sl 2 nl tt xs)), (1, V.c (C.sl 2 nl2 t2 ys)), (5, V.buf 0 0 0 n5), (6, V.c (C.int IntKind.i64 i6)), (7, V.c (C.int IntKind.i64 i7))], [O.mem 3 0 ys0])
noncomputable abbrev b94_0 : Code := loopAt (codeOf E (94)) 0
abbrev x94_0x0 (nl : OBo) (tt : Bool) (xs : LLC) (nl2 : OBo) (t2 : Bool) (ys : LLC) (n5 : Nat) (i6 : Int) (i7 : Int) (ys0 : LLC) : Ex × Fr × Hp := (Ex.exit 0, [(0, V.c (C.sl 2 nl tt xs)), (1, V.c (C.sl 2 nl2 t2 ys)), (5, V.buf 0 0 0 n5), (6, V.c (C.int IntKind.i64 i6)), (7, V.c (C.int IntKind.i64 i7)), (17, V.c (C.bool false))], [O.mem 3 0 ys0])
abbrev c94_0_1 (nl : OBo) (tt : Bool) (xs : LLC) (nl2 : OBo) (t2 : Bool) (ys : LLC) (n5 : Nat) (i6 : Int) (i7 : Int) (ys0 : LLC) := (s94_0 nl tt xs nl2 t2 ys (n5 + 1) i6 (IntKind.i64.wrap (i7 + 1)) (List.take n5 ys0 ++ [[Sk.str.mk ((ys.getD i7.toNat []).headD C.pnil), C.sl 5 (some true) true [], (Sk.sl 5).mk ((ys.getD i7.toNat []).tail.headD C.pnil)]]))
abbrev c94_0_2 (ys : LLC) (i7 : Int) := (shOk [Sk.str, Sk.sl 5] (ys.getD i7.toNat []))
abbrev c94_0_3 (xs : LLC) (i6 : Int) := (shOk [Sk.str, Sk.sl 5] (xs.getD i6.toNat []))
abbrev c94_0_4 (nl : OBo) (tt : Bool) (xs : LLC) (nl2 : OBo) (t2 : Bool) (ys : LLC) (n5 : Nat) (i6 : Int) (i7 : Int) (ys0 : LLC) := (s94_0 nl tt xs nl2 t2 ys (n5 + 1) (IntKind.i64.wrap (i6 + 1)) (IntKind.i64.wrap (i7 + 1)) (List.take n5 ys0 ++ [[Sk.str.mk ((xs.getD i6.toNat []).headD C.pnil), (Sk.sl 5).mk ((xs.getD i6.toNat []).tail.headD C.pnil), (Sk.sl 5).mk ((ys.getD i7.toNat []).tail.headD C.pnil)]]))
abbrev c94_0_5 (nl : OBo) (tt : Bool) (xs : LLC) (nl2 : OBo) (t2 : Bool) (ys : LLC) (n5 : Nat) (i6 : Int) (i7 : Int) (ys0 : LLC) := (s94_0 nl tt xs nl2 t2 ys (n5 + 1) (IntKind.i64.wrap (i6 + 1)) i7 (List.take n5 ys0 ++ [[Sk.str.mk ((xs.getD i6.toNat []).headD C.pnil), (Sk.sl 5).mk ((xs.getD i6.toNat []).tail.headD C.pnil), C.sl 5 (some true) true []]]))
abbrev c94_0_6 (xs : LLC) (ys : LLC) (i6 : Int) (i7 : Int) := (Op.bytesLess ((ys.getD i7.toNat []).headD C.pnil).st ((xs.getD i6.toNat []).headD C.pnil).st)
theorem t94_0 (nl : OBo) (tt : Bool) (xs : LLC) (nl2 : OBo) (t2 : Bool) (ys : LLC) (n5 : Nat) (i6 : Int) (i7 : Int) (ys0 : LLC) : p94.lts b94_0 (s94_0 nl tt xs nl2 t2 ys n5 i6 i7 ys0) = (Tr.br (decide (i6 < (↑xs.length : Int))) (Tr.br (i7 == (↑ys.length : Int)) (Tr.chk (decide (0 <= i6)) (Tr.chk true (Tr.chk (decide (i6.toNat < xs.length)) (Tr.chk (c94_0_3 xs i6) (Tr.chk (decide (0 <= i6)) (Tr.chk true (Tr.chk (decide (i6.toNat < xs.length)) (Tr.chk (c94_0_3 xs i6) (Tr.chk true (Tr.chk true (Tr.chk (decide (n5 + 1 < 4294967296)) (Tr.chk true (Tr.leaf (R.s (c94_0_5 nl tt xs nl2 t2 ys n5 i6 i7 ys0))))))))))))))) (Tr.br (decide (i6 < (↑xs.length : Int))) (Tr.chk (decide (0 <= i6)) (Tr.chk true (Tr.chk (decide (i6.toNat < xs.length)) (Tr.chk (c94_0_3 xs i6) (Tr.chk (decide (0 <= i7)) (Tr.chk true (Tr.chk (decide (i7.toNat < ys.length)) (Tr.chk (c94_0_2 ys i7) (Tr.br (Op.bytesLess ((xs.getD i6.toNat []).headD C.pnil).st ((ys.getD i7.toNat []).headD C.pnil).st) (Tr.chk (decide (0 <= i6)) (Tr.chk true (Tr.chk (decide (i6.toNat < xs.length)) (Tr.chk (c94_0_3 xs i6) (Tr.chk (decide (0 <= i6)) (Tr.chk true (Tr.chk (decide (i6.toNat < xs.length)) (Tr.chk (c94_0_3 xs i6) (Tr.chk true (Tr.chk true (Tr.chk (decide (n5 + 1 < 4294967296)) (Tr.chk true (Tr.leaf (R.s (c94_0_5 nl tt xs nl2 t2 ys n5 i6 i7 ys0))))))))))))))) (Tr.br (i6 == (↑xs.length : Int)) (Tr.chk (decide (0 <= i7)) (Tr.chk true (Tr.chk (decide (i7.toNat < ys.length)) (Tr.chk (c94_0_2 ys i7) (Tr.chk (decide (0 <= i7)) (Tr.chk true (Tr.chk (decide (i7.toNat < ys.length)) (Tr.chk (c94_0_2 ys i7) (Tr.chk true (Tr.chk true (Tr.chk (decide (n5 + 1 < 4294967296)) (Tr.chk true (Tr.leaf (R.s (c94_0_1 nl tt xs nl2 t2 ys n5 i6 i7 ys0))))))))))))))) (Tr.chk (decide (0 <= i7)) (Tr.chk true (Tr.chk (decide (i7.toNat < ys.length)) (Tr.chk (c94_0_2 ys i7) (Tr.chk (decide (0 <= i6)) (Tr.chk true (Tr.chk (decide (i6.toNat < xs.length)) (Tr.chk (c94_0_3 xs i6) (Tr.br (c94_0_6 xs ys i6 i7) (Tr.chk (decide (0 <= i7)) (Tr.chk true (Tr.chk (decide (i7.toNat < ys.length)) (Tr.chk (c94_0_2 ys i7) (Tr.chk (decide (0 <= i7)) (Tr.chk true (Tr.chk (decide (i7.toNat < ys.length)) (Tr.chk (c94_0_2 ys i7) (Tr.chk true (Tr.chk true (Tr.chk (decide (n5 + 1 < 4294967296)) (Tr.chk true (Tr.leaf (R.s (c94_0_1 nl tt xs nl2 t2 ys n5 i6 i7 ys0))))))))))))))) (Tr.chk (decide (0 <= i6)) (Tr.chk true (Tr.chk (decide (i6.toNat < xs.length)) (Tr.chk (c94_0_3 xs i6) (Tr.chk (decide (0 <= i7)) (Tr.chk true (Tr.chk (decide (i7.toNat < ys.length)) (Tr.chk (c94_0_2 ys i7) (Tr.chk (isRows ((xs.getD i6.toNat []).tail.headD C.pnil).xs) (Tr.chk (isRows ((ys.getD i7.toNat []).tail.headD C.pnil).xs) (Tr.chk (decide (((xs.getD i6.toNat []).tail.headD C.pnil).xs.length <= 9223372036854775807)) (Tr.br (!decide (toRows ((xs.getD i6.toNat []).tail.headD C.pnil).xs = toRows ((ys.getD i7.toNat []).tail.headD C.pnil).xs)) (Tr.chk (decide (0 <= i6)) (Tr.chk true (Tr.chk (decide (i6.toNat < xs.length)) (Tr.chk (c94_0_3 xs i6) (Tr.chk (decide (0 <= i6)) (Tr.chk true (Tr.chk (decide (i6.toNat < xs.length)) (Tr.chk (c94_0_3 xs i6) (Tr.chk (decide (0 <= i7)) (Tr.chk true (Tr.chk (decide (i7.toNat < ys.length)) (Tr.chk (c94_0_2 ys i7) (Tr.chk true (Tr.chk true (Tr.chk (decide (n5 + 1 < 4294967296)) (Tr.chk true (Tr.leaf (R.s (c94_0_4 nl tt xs nl2 t2 ys n5 i6 i7 ys0))))))))))))))))))) (Tr.leaf (R.s (s94_0 nl tt xs nl2 t2 ys n5 (IntKind.i64.wrap (i6 + 1)) (IntKind.i64.wrap (i7 + 1)) ys0)))))))))))))))))))))))))))))))))) (Tr.br (i6 == (↑xs.length : Int)) (Tr.chk (decide (0 <= i7)) (Tr.chk true (Tr.chk (decide (i7.toNat < ys.length)) (Tr.chk (c94_0_2 ys i7) (Tr.chk (decide (0 <= i7)) (Tr.chk true (Tr.chk (decide (i7.toNat < ys.length)) (Tr.chk (c94_0_2 ys i7) (Tr.chk true (Tr.chk true (Tr.chk (decide (n5 + 1 < 4294967296)) (Tr.chk true (Tr.leaf (R.s (c94_0_1 nl tt xs nl2 t2 ys n5 i6 i7 ys0))))))))))))))) (Tr.chk (decide (0 <= i7)) (Tr.chk true (Tr.chk (decide (i7.toNat < ys.length)) (Tr.chk (c94_0_2 ys i7) (Tr.chk (decide (0 <= i6)) (Tr.chk true (Tr.chk (decide (i6.toNat < xs.length)) (Tr.chk (c94_0_3 xs i6) (Tr.br (c94_0_6 xs ys i6 i7) (Tr.chk (decide (0 <= i7)) (Tr.chk true (Tr.chk (decide (i7.toNat < ys.length)) (Tr.chk (c94_0_2 ys i7) (Tr.chk (decide (0 <= i7)) (Tr.chk true (Tr.chk (decide (i7.toNat < ys.length)) (Tr.chk (c94_0_2 ys i7) (Tr.chk true (Tr.chk true (Tr.chk (decide (n5 + 1 < 4294967296)) (Tr.chk true (Tr.leaf (R.s (c94_0_1 nl tt xs nl2 t2 ys n5 i6 i7 ys0))))))))))))))) (Tr.chk (decide (0 <= i6)) (Tr.chk true (Tr.chk (decide (i6.toNat < xs.length)) (Tr.chk (c94_0_3 xs i6) (Tr.chk (decide (0 <= i7)) (Tr.chk true (Tr.chk (decide (i7.toNat < ys.length)) (Tr.chk (c94_0_2 ys i7) (Tr.chk (isRows ((xs.getD i6.toNat []).tail.headD C.pnil).xs) (Tr.chk (isRows ((ys.getD i7.toNat []).tail.headD C.pnil).xs) (Tr.chk (decide (((xs.getD i6.toNat []).tail.headD C.pnil).xs.length <= 9223372036854775807)) (Tr.br (!decide (toRows ((xs.getD i6.toNat []).tail.headD C.pnil).xs = toRows ((ys.getD i7.toNat []).tail.headD C.pnil).xs)) (Tr.chk (decide (0 <= i6)) (Tr.chk true (Tr.chk (decide (i6.toNat < xs.length)) (Tr.chk (c94_0_3 xs i6) (Tr.chk (decide (0 <= i6)) (Tr.chk true (Tr.chk (decide (i6.toNat < xs.length)) (Tr.chk (c94_0_3 xs i6) (Tr.chk (decide (0 <= i7)) (Tr.chk true (Tr.chk (decide (i7.toNat < ys.length)) (Tr.chk (c94_0_2 ys i7) (Tr.chk true (Tr.chk true (Tr.chk (decide (n5 + 1 < 4294967296)) (Tr.chk true (Tr.leaf (R.s (c94_0_4 nl tt xs nl2 t2 ys n5 i6 i7 ys0))))))))))))))))))) (Tr.leaf (R.s (s94_0 nl tt xs nl2 t2 ys n5 (IntKind.i64.wrap (i6 + 1)) (IntKind.i64.wrap (i7 + 1)) ys0))))))))))))))))))))))))))) (Tr.br (decide (i7 < (↑ys.length : Int))) (Tr.br (i7 == (↑ys.length : Int)) (Tr.chk (decide (0 <= i6)) (Tr.chk true (Tr.chk (decide (i6.toNat < xs.length)) (Tr.chk (c94_0_3 xs i6) (Tr.chk (decide (0 <= i6)) (Tr.chk true (Tr.chk (decide (i6.toNat < xs.length)) (Tr.chk (c94_0_3 xs i6) (Tr.chk true (Tr.chk true (Tr.chk (decide (n5 + 1 < 4294967296)) (Tr.chk true (Tr.leaf (R.s (c94_0_5 nl tt xs nl2 t2 ys n5 i6 i7 ys0))))))))))))))) (Tr.br (decide (i6 < (↑xs.length : Int))) (Tr.chk (decide (0 <= i6)) (Tr.chk true (Tr.chk (decide (i6.toNat < xs.length)) (Tr.chk (c94_0_3 xs i6) (Tr.chk (decide (0 <= i7)) (Tr.chk true (Tr.chk (decide (i7.toNat < ys.length)) (Tr.chk (c94_0_2 ys i7) (Tr.br (Op.bytesLess ((xs.getD i6.toNat []).headD C.pnil).st ((ys.getD i7.toNat []).headD C.pnil).st) (Tr.chk (decide (0 <= i6)) (Tr.chk true (Tr.chk (decide (i6.toNat < xs.length)) (Tr.chk (c94_0_3 xs i6) (Tr.chk (decide (0 <= i6)) (Tr.chk true (Tr.chk (decide (i6.toNat < xs.length)) (Tr.chk (c94_0_3 xs i6) (Tr.chk true (Tr.chk true (Tr.chk (decide (n5 + 1 < 4294967296)) (Tr.chk true (Tr.leaf (R.s (c94_0_5 nl tt xs nl2 t2 ys n5 i6 i7 ys0))))))))))))))) (Tr.br (i6 == (↑xs.length : Int)) (Tr.chk (decide (0 <= i7)) (Tr.chk true (Tr.chk (decide (i7.toNat < ys.length)) (Tr.chk (c94_0_2 ys i7) (Tr.chk (decide (0 <= i7)) (Tr.chk true (Tr.chk (decide (i7.toNat < ys.length)) (Tr.chk (c94_0_2 ys i7) (Tr.chk true (Tr.chk true (Tr.chk (decide (n5 + 1 < 4294967296)) (Tr.chk true (Tr.leaf (R.s (c94_0_1 nl tt xs nl2 t2 ys n5 i6 i7 ys0))))))))))))))) (Tr.chk (decide (0 <= i7)) (Tr.chk true (Tr.chk (decide (i7.toNat < ys.length)) (Tr.chk (c94_0_2 ys i7) (Tr.chk (decide (0 <= i6)) (Tr.chk true (Tr.chk (decide (i6.toNat < xs.length)) (Tr.chk (c94_0_3 xs i6) (Tr.br (c94_0_6 xs ys i6 i7) (Tr.chk (decide (0 <= i7)) (Tr.chk true (Tr.chk (decide (i7.toNat < ys.length)) (Tr.chk (c94_0_2 ys i7) (Tr.chk (decide (0 <= i7)) (Tr.chk true (Tr.chk (decide (i7.toNat < ys.length)) (Tr.chk (c94_0_2 ys i7) (Tr.chk true (Tr.chk true (Tr.chk (decide (n5 + 1 < 4294967296)) (Tr.chk true (Tr.leaf (R.s (c94_0_1 nl tt xs nl2 t2 ys n5 i6 i7 ys0))))))))))))))) (Tr.chk (decide (0 <= i6)) (Tr.chk true (Tr.chk (decide (i6.toNat < xs.length)) (Tr.chk (c94_0_3 xs i6) (Tr.chk (decide (0 <= i7)) (Tr.chk true (Tr.chk (decide (i7.toNat < ys.length)) (Tr.chk (c94_0_2 ys i7) (Tr.chk (isRows ((xs.getD i6.toNat []).tail.headD C.pnil).xs) (Tr.chk (isRows ((ys.getD i7.toNat []).tail.headD C.pnil).xs) (Tr.chk (decide (((xs.getD i6.toNat []).tail.headD C.pnil).xs.length <= 9223372036854775807)) (Tr.br (!decide (toRows ((xs.getD i6.toNat []).tail.headD C.pnil).xs = toRows ((ys.getD i7.toNat []).tail.headD C.pnil).xs)) (Tr.chk (decide (0 <= i6)) (Tr.chk true (Tr.chk (decide (i6.toNat < xs.length)) (Tr.chk (c94_0_3 xs i6) (Tr.chk (decide (0 <= i6)) (Tr.chk true (Tr.chk (decide (i6.toNat < xs.length)) (Tr.chk (c94_0_3 xs i6) (Tr.chk (decide (0 <= i7)) (Tr.chk true (Tr.chk (decide (i7.toNat < ys.length)) (Tr.chk (c94_0_2 ys i7) (Tr.chk true (Tr.chk true (Tr.chk (decide (n5 + 1 < 4294967296)) (Tr.chk true (Tr.leaf (R.s (c94_0_4 nl tt xs nl2 t2 ys n5 i6 i7 ys0))))))))))))))))))) (Tr.leaf (R.s (s94_0 nl tt xs nl2 t2 ys n5 (IntKind.i64.wrap (i6 + 1)) (IntKind.i64.wrap (i7 + 1)) ys0)))))))))))))))))))))))))))))))))) (Tr.br (i6 == (↑xs.length : Int)) (Tr.chk (decide (0 <= i7)) (Tr.chk true (Tr.chk (decide (i7.toNat < ys.length)) (Tr.chk (c94_0_2 ys i7) (Tr.chk (decide (0 <= i7)) (Tr.chk true (Tr.chk (decide (i7.toNat < ys.length)) (Tr.chk (c94_0_2 ys i7) (Tr.chk true (Tr.chk true (Tr.chk (decide (n5 + 1 < 4294967296)) (Tr.chk true (Tr.leaf (R.s (c94_0_1 nl tt xs nl2 t2 ys n5 i6 i7 ys0))))))))))))))) (Tr.chk (decide (0 <= i7)) (Tr.chk true (Tr.chk (decide (i7.toNat < ys.length)) (Tr.chk (c94_0_2 ys i7) (Tr.chk (decide (0 <= i6)) (Tr.chk true (Tr.chk (decide (i6.toNat < xs.length)) (Tr.chk (c94_0_3 xs i6) (Tr.br (c94_0_6 xs ys i6 i7) (Tr.chk (decide (0 <= i7)) (Tr.chk true (Tr.chk (decide (i7.toNat < ys.length)) (Tr.chk (c94_0_2 ys i7) (Tr.chk (decide (0 <= i7)) (Tr.chk true (Tr.chk (decide (i7.toNat < ys.length)) (Tr.chk (c94_0_2 ys i7) (Tr.chk true (Tr.chk true (Tr.chk (decide (n5 + 1 < 4294967296)) (Tr.chk true (Tr.leaf (R.s (c94_0_1 nl tt xs nl2 t2 ys n5 i6 i7 ys0))))))))))))))) (Tr.chk (decide (0 <= i6)) (Tr.chk true (Tr.chk (decide (i6.toNat < xs.length)) (Tr.chk (c94_0_3 xs i6) (Tr.chk (decide (0 <= i7)) (Tr.chk true (Tr.chk (decide (i7.toNat < ys.length)) (Tr.chk (c94_0_2 ys i7) (Tr.chk (isRows ((xs.getD i6.toNat []).tail.headD C.pnil).xs) (Tr.chk (isRows ((ys.getD i7.toNat []).tail.headD C.pnil).xs) (Tr.chk (decide (((xs.getD i6.toNat []).tail.headD C.pnil).xs.length <= 9223372036854775807)) (Tr.br (!decide (toRows ((xs.getD i6.toNat []).tail.headD C.pnil).xs = toRows ((ys.getD i7.toNat []).tail.headD C.pnil).xs)) (Tr.chk (decide (0 <= i6)) (Tr.chk true (Tr.chk (decide (i6.toNat < xs.length)) (Tr.chk (c94_0_3 xs i6) (Tr.chk (decide (0 <= i6)) (Tr.chk true (Tr.chk (decide (i6.toNat < xs.length)) (Tr.chk (c94_0_3 xs i6) (Tr.chk (decide (0 <= i7)) (Tr.chk true (Tr.chk (decide (i7.toNat < ys.length)) (Tr.chk (c94_0_2 ys i7) (Tr.chk true (Tr.chk true (Tr.chk (decide (n5 + 1 < 4294967296)) (Tr.chk true (Tr.leaf (R.s (c94_0_4 nl tt xs nl2 t2 ys n5 i6 i7 ys0))))))))))))))))))) (Tr.leaf (R.s (s94_0 nl tt xs nl2 t2 ys n5 (IntKind.i64.wrap (i6 + 1)) (IntKind.i64.wrap (i7 + 1)) ys0))))))))))))))))))))))))))) (Tr.leaf (R.x (x94_0x0 nl tt xs nl2 t2 ys n5 i6 i7 ys0))))) := by kernel_rfl
theorem k94_0x0 (nl : OBo) (tt : Bool) (xs : LLC) (nl2 : OBo) (t2 : Bool) (ys : LLC) (n5 : Nat) (i6 : Int) (i7 : Int) (ys0 : LLC) : p94.fkx 0 (x94_0x0 nl tt xs nl2 t2 ys n5 i6 i7 ys0) = (Tr.leaf (R.out [V.c (C.sl 3 none false (List.take n5 ys0))] [])) := by kernel_rfl
theorem t94 (nl : OBo) (tt : Bool) (xs : LLC) (nl2 : OBo) (t2 : Bool) (ys : LLC) : p94.ft ([V.c (C.sl 2 nl tt xs), V.c (C.sl 2 nl2 t2 ys)]) ([]) = (Tr.ls 0 (s94_0 nl tt xs nl2 t2 ys (0) (0) (0) ([]))) := by kernel_rfl
def s94 : CSpec := fun a h => match a, h with
 | [.c (.sl 2 nl tt xs), .c (.sl 2 nl2 t2 ys)], [] => some ([isEs xs, isEs ys, decide (xs.length < 1000000000), decide (ys.length < 1000000000), rowsLen (toEs xs), rneB (toEs xs), rneB (toEs ys)], [.c (.sl 3 none false (chgs (refC (toEs xs) (toEs ys))))], [])
 | _, _ => none
noncomputable abbrev p41 : Par := par E sh (ctOf [(70, s70), (75, s75), (94, s94)]) 41 2 0
theorem t41 (s : Bys) (xs : LLC) (ys : LLC) (s2 : Bys) (xs2 : LLC) (ys2 : LLC) : p41.ft ([V.agg [V.c (C.str s), V.c (C.sl 5 none false xs), V.c (C.sl 3 none false ys)], V.agg [V.c (C.str s2), V.c (C.sl 5 none false xs2), V.c (C.sl 3 none false ys2)]]) ([]) = (Tr.chk (isRows xs) (Tr.chk (isL ys) (Tr.br (!okR (Nd.node s (toRows xs) (decL ys))) (Tr.leaf (R.out [V.c (C.sl 3 none false [])] [])) (Tr.chk (isRows xs2) (Tr.chk (isL ys2) (Tr.br (!okR (Nd.node s2 (toRows xs2) (decL ys2))) (Tr.leaf (R.out [V.c (C.sl 3 none false [])] [])) (Tr.chk (isRows xs) (Tr.chk (isL ys) (Tr.chk (decide ((entT (Nd.node s (toRows xs) (decL ys))).length < 4294967290)) (Tr.chk (isRows xs2) (Tr.chk (isL ys2) (Tr.chk (decide ((entT (Nd.node s2 (toRows xs2) (decL ys2))).length < 4294967290)) (Tr.chk (isEs (ents (if okR (Nd.node s (toRows xs) (decL ys)) = true then entT (Nd.node s (toRows xs) (decL ys)) else []))) (Tr.chk (isEs (ents (if okR (Nd.node s2 (toRows xs2) (decL ys2)) = true then entT (Nd.node s2 (toRows xs2) (decL ys2)) else []))) (Tr.chk (decide ((ents (if okR (Nd.node s (toRows xs) (decL ys)) = true then entT (Nd.node s (toRows xs) (decL ys)) else [])).length < 1000000000)) (Tr.chk (decide ((ents (if okR (Nd.node s2 (toRows xs2) (decL ys2)) = true then entT (Nd.node s2 (toRows xs2) (decL ys2)) else [])).length < 1000000000)) (Tr.chk (rowsLen (toEs (ents (if okR (Nd.node s (toRows xs) (decL ys)) = true then entT (Nd.node s (toRows xs) (decL ys)) else [])))) (Tr.chk (rneB (toEs (ents (if okR (Nd.node s (toRows xs) (decL ys)) = true then entT (Nd.node s (toRows xs) (decL ys)) else [])))) (Tr.chk (rneB (toEs (ents (if okR (Nd.node s2 (toRows xs2) (decL ys2)) = true then entT (Nd.node s2 (toRows xs2) (decL ys2)) else [])))) (Tr.leaf (R.out [V.c (C.sl 3 none false (chgs (refC (toEs (ents (if okR (Nd.node s (toRows xs) (decL ys)) = true then entT (Nd.node s (toRows xs) (decL ys)) else []))) (toEs (ents (if okR (Nd.node s2 (toRows xs2) (decL ys2)) = true then entT (Nd.node s2 (toRows xs2) (decL ys2)) else []))))))] []))))))))))))))))))))) := by kernel_rfl
def s41 : CSpec := fun a h => match a, h with
 | [.agg [.c (.str s), .c (.sl 5 none false xs), .c (.sl 3 none false ys)], .agg [.c (.str s2), .c (.sl 5 none false xs2), .c (.sl 3 none false ys2)]], [] => some ([isRows xs, isL ys, isRows xs2, isL ys2, decide ((entL (decL ys)).length < 1000000000), decide ((entL (decL ys2)).length < 1000000000)],
   [.c (.sl 3 none false (chgs (chgP (.node s (toRows xs) (decL ys)) (.node s2 (toRows xs2) (decL ys2)))))], [])
 | _, _ => none
noncomputable abbrev p39 : Par := par E sh (ctOf [(26, s26)]) 39 2 0
abbrev s39_0 (nl : OBo) (tt : Bool) (xs : LLC) (nl2 : OBo) (t2 : Bool) (ys : LLC) (i5 : Int) : Fr × Hp := ([(0, V.c (C.sl 3 nl tt xs)), (1, V.c (C.sl 3 nl2 t2 ys)), (5, V.c (C.int IntKind.i64 i5))], [])
noncomputable abbrev b39_0 : Code := loopAt (codeOf E (39)) 0
abbrev x39_0x0 : Ex × Fr × Hp := (Ex.ret, [(4, V.c (C.bool false))], [])
abbrev x39_0x1 (nl : OBo) (tt : Bool) (xs : LLC) (nl2 : OBo) (t2 : Bool) (ys : LLC) (i5 : Int) : Ex × Fr × Hp := (Ex.exit 0, [(0, V.c (C.sl 3 nl tt xs)), (1, V.c (C.sl 3 nl2 t2 ys)), (5, V.c (C.int IntKind.i64 i5)), (14, V.c (C.bool false))], [])
theorem t39_0 (nl : OBo) (tt : Bool) (xs : LLC) (nl2 : OBo) (t2 : Bool) (ys : LLC) (i5 : Int) : p39.lts b39_0 (s39_0 nl tt xs nl2 t2 ys i5) = (Tr.br (decide (i5 < (↑xs.length : Int))) (Tr.chk (decide (0 <= i5)) (Tr.chk true (Tr.chk (decide (i5.toNat < xs.length)) (Tr.chk (shOk [Sk.str, Sk.slx 5, Sk.slx 5] (xs.getD i5.toNat [])) (Tr.chk (decide (0 <= i5)) (Tr.chk true (Tr.chk (decide (i5.toNat < ys.length)) (Tr.chk (shOk [Sk.str, Sk.slx 5, Sk.slx 5] (ys.getD i5.toNat [])) (Tr.br (!((xs.getD i5.toNat []).headD C.pnil).st == ((ys.getD i5.toNat []).headD C.pnil).st) (Tr.leaf (R.x x39_0x0)) (Tr.chk (decide (0 <= i5)) (Tr.chk true (Tr.chk (decide (i5.toNat < xs.length)) (Tr.chk (shOk [Sk.str, Sk.slx 5, Sk.slx 5] (xs.getD i5.toNat [])) (Tr.chk (decide (0 <= i5)) (Tr.chk true (Tr.chk (decide (i5.toNat < ys.length)) (Tr.chk (shOk [Sk.str, Sk.slx 5, Sk.slx 5] (ys.getD i5.toNat [])) (Tr.chk (isRows ((xs.getD i5.toNat []).tail.headD C.pnil).xs) (Tr.chk (isRows ((ys.getD i5.toNat []).tail.headD C.pnil).xs) (Tr.chk (decide (((xs.getD i5.toNat []).tail.headD C.pnil).xs.length <= 9223372036854775807)) (Tr.br (!decide (toRows ((xs.getD i5.toNat []).tail.headD C.pnil).xs = toRows ((ys.getD i5.toNat []).tail.headD C.pnil).xs)) (Tr.leaf (R.x x39_0x0)) (Tr.chk (decide (0 <= i5)) (Tr.chk true (Tr.chk (decide (i5.toNat < xs.length)) (Tr.chk (shOk [Sk.str, Sk.slx 5, Sk.slx 5] (xs.getD i5.toNat [])) (Tr.chk (decide (0 <= i5)) (Tr.chk true (Tr.chk (decide (i5.toNat < ys.length)) (Tr.chk (shOk [Sk.str, Sk.slx 5, Sk.slx 5] (ys.getD i5.toNat [])) (Tr.chk (isRows ((xs.getD i5.toNat []).tail.tail.headD C.pnil).xs) (Tr.chk (isRows ((ys.getD i5.toNat []).tail.tail.headD C.pnil).xs) (Tr.chk (decide (((xs.getD i5.toNat []).tail.tail.headD C.pnil).xs.length <= 9223372036854775807)) (Tr.br (!decide (toRows ((xs.getD i5.toNat []).tail.tail.headD C.pnil).xs = toRows ((ys.getD i5.toNat []).tail.tail.headD C.pnil).xs)) (Tr.leaf (R.x x39_0x0)) (Tr.leaf (R.s (s39_0 nl tt xs nl2 t2 ys (IntKind.i64.wrap (i5 + 1)))))))))))))))))))))))))))))))))))))) (Tr.leaf (R.x (x39_0x1 nl tt xs nl2 t2 ys i5)))) := by kernel_rfl
theorem k39_0x1 (nl : OBo) (tt : Bool) (xs : LLC) (nl2 : OBo) (t2 : Bool) (ys : LLC) (i5 : Int) : p39.fkx 0 (x39_0x1 nl tt xs nl2 t2 ys i5) = (Tr.leaf (R.out [V.c (C.bool true)] [])) := by kernel_rfl
theorem t39 (nl : OBo) (tt : Bool) (xs : LLC) (nl2 : OBo) (t2 : Bool) (ys : LLC) : p39.ft ([V.c (C.sl 3 nl tt xs), V.c (C.sl 3 nl2 t2 ys)]) ([]) = (Tr.br ((↑xs.length : Int) != (↑ys.length : Int)) (Tr.leaf (R.out [V.c (C.bool false)] [])) (Tr.ls 0 (s39_0 nl tt xs nl2 t2 ys (0)))) := by kernel_rfl
def s39 : CSpec := fun a h => match a, h with
 | [.c (.sl 3 nl tt xs), .c (.sl 3 nl2 t2 ys)], [] => some ([isCgs xs, eqbLL xs ys, decide (xs.length < 4294967296), cgLen (toCgs xs)], [V.b true], [])
 | _, _ => none
noncomputable abbrev p38 : Par := par E sh (ctOf [(25, s25q), (26, s26), (28, s28), (70, s70), (71, s71), (72, s72)]) 38 2 0
abbrev s38_0 (s : Bys) (xs : LLC) (ys : LLC) (nl : OBo) (tt : Bool) (zs : LLC) (i6 : Int) (nlh0 : OBo) (th0 : Bool) (nlh0_1 : OBo) (th0_1 : Bool) (sh1 : Bys) (nlh1 : OBo) (th1 : Bool) (xsh1 : LLC) (nlh1_1 : OBo) (th1_1 : Bool) (xsh1_1 : LLC) : Fr × Hp := ([(1, V.c (C.sl 3 nl tt zs)), (2, V.ptr 0 0 0 0), (4, V.ptr 1 0 0 0), (6, V.c (C.int IntKind.i64 i6))], [O.box [V.c (C.str s), V.c (C.sl 5 nlh0 th0 xs), V.c (C.sl 3 nlh0_1 th0_1 ys)], O.box [V.c (C.str sh1), V.c (C.sl 5 nlh1 th1 xsh1), V.c (C.sl 3 nlh1_1 th1_1 xsh1_1)]])
noncomputable abbrev b38_0 : Code := loopAt (codeOf E (38)) 0
abbrev x38_0x0 (s : Bys) (xs : LLC) (ys : LLC) (nlh0 : OBo) (th0 : Bool) (nlh0_1 : OBo) (th0_1 : Bool) : Ex × Fr × Hp := (Ex.ret, [(4, V.ptr 1 0 0 0), (5, V.c (C.int IntKind.i64 2))], [O.box [V.c (C.str s), V.c (C.sl 5 nlh0 th0 xs), V.c (C.sl 3 nlh0_1 th0_1 ys)], O.box [V.c (C.str []), V.c (C.sl 5 (some true) true []), V.c (C.sl 3 (some true) true [])]])
abbrev x38_0x1 (s : Bys) (xs : LLC) (ys : LLC) (nl : OBo) (tt : Bool) (zs : LLC) (i6 : Int) (nlh0 : OBo) (th0 : Bool) (nlh0_1 : OBo) (th0_1 : Bool) (sh1 : Bys) (nlh1 : OBo) (th1 : Bool) (xsh1 : LLC) (nlh1_1 : OBo) (th1_1 : Bool) (xsh1_1 : LLC) : Ex × Fr × Hp := (Ex.exit 0, [(1, V.c (C.sl 3 nl tt zs)), (2, V.ptr 0 0 0 0), (4, V.ptr 1 0 0 0), (6, V.c (C.int IntKind.i64 i6)), (16, V.c (C.bool false))], [O.box [V.c (C.str s), V.c (C.sl 5 nlh0 th0 xs), V.c (C.sl 3 nlh0_1 th0_1 ys)], O.box [V.c (C.str sh1), V.c (C.sl 5 nlh1 th1 xsh1), V.c (C.sl 3 nlh1_1 th1_1 xsh1_1)]])
abbrev s38_1 (s : Bys) (xs : LLC) (ys : LLC) (nl : OBo) (tt : Bool) (zs : LLC) (nlh0 : OBo) (th0 : Bool) (nlh0_1 : OBo) (th0_1 : Bool) (sh1 : Bys) (nlh1 : OBo) (th1 : Bool) (xsh1 : LLC) (nlh1_1 : OBo) (th1_1 : Bool) (xsh1_1 : LLC) (i7 : Int) : Fr × Hp := ([(1, V.c (C.sl 3 nl tt zs)), (2, V.ptr 0 0 0 0), (4, V.ptr 1 0 0 0), (7, V.c (C.int IntKind.i64 i7))], [O.box [V.c (C.str s), V.c (C.sl 5 nlh0 th0 xs), V.c (C.sl 3 nlh0_1 th0_1 ys)], O.box [V.c (C.str sh1), V.c (C.sl 5 nlh1 th1 xsh1), V.c (C.sl 3 nlh1_1 th1_1 xsh1_1)]])
noncomputable abbrev b38_1 : Code := loopAt (codeOf E (38)) 1
abbrev x38_1x0 (s : Bys) (xs : LLC) (ys : LLC) (nlh0 : OBo) (th0 : Bool) (nlh0_1 : OBo) (th0_1 : Bool) : Ex × Fr × Hp := (Ex.ret, [(4, V.ptr 1 0 0 0), (5, V.c (C.int IntKind.i64 19))], [O.box [V.c (C.str s), V.c (C.sl 5 nlh0 th0 xs), V.c (C.sl 3 nlh0_1 th0_1 ys)], O.box [V.c (C.str []), V.c (C.sl 5 (some true) true []), V.c (C.sl 3 (some true) true [])]])
abbrev x38_1x1 (s : Bys) (xs : LLC) (ys : LLC) (nl : OBo) (tt : Bool) (zs : LLC) (nlh0 : OBo) (th0 : Bool) (nlh0_1 : OBo) (th0_1 : Bool) (sh1 : Bys) (nlh1 : OBo) (th1 : Bool) (xsh1 : LLC) (nlh1_1 : OBo) (th1_1 : Bool) (xsh1_1 : LLC) (i7 : Int) : Ex × Fr × Hp := (Ex.exit 2, [(1, V.c (C.sl 3 nl tt zs)), (2, V.ptr 0 0 0 0), (4, V.ptr 1 0 0 0), (7, V.c (C.int IntKind.i64 i7)), (79, V.c (C.bool false))], [O.box [V.c (C.str s), V.c (C.sl 5 nlh0 th0 xs), V.c (C.sl 3 nlh0_1 th0_1 ys)], O.box [V.c (C.str sh1), V.c (C.sl 5 nlh1 th1 xsh1), V.c (C.sl 3 nlh1_1 th1_1 xsh1_1)]])
abbrev s38_2 (s : Bys) (xs : LLC) (ys : LLC) (nl : OBo) (tt : Bool) (zs : LLC) (nlh0 : OBo) (th0 : Bool) (nlh0_1 : OBo) (th0_1 : Bool) (sh1 : Bys) (nlh1 : OBo) (th1 : Bool) (xsh1 : LLC) (nlh1_1 : OBo) (th1_1 : Bool) (xsh1_1 : LLC) (i8 : Int) : Fr × Hp := ([(1, V.c (C.sl 3 nl tt zs)), (2, V.ptr 0 0 0 0), (4, V.ptr 1 0 0 0), (8, V.c (C.int IntKind.i64 i8))], [O.box [V.c (C.str s), V.c (C.sl 5 nlh0 th0 xs), V.c (C.sl 3 nlh0_1 th0_1 ys)], O.box [V.c (C.str sh1), V.c (C.sl 5 nlh1 th1 xsh1), V.c (C.sl 3 nlh1_1 th1_1 xsh1_1)]])
noncomputable abbrev b38_2 : Code := loopAt (codeOf E (38)) 2
abbrev x38_2x0 (s : Bys) (xs : LLC) (ys : LLC) (nl : OBo) (tt : Bool) (zs : LLC) (nlh0 : OBo) (th0 : Bool) (nlh0_1 : OBo) (th0_1 : Bool) (sh1 : Bys) (nlh1 : OBo) (th1 : Bool) (xsh1 : LLC) (nlh1_1 : OBo) (th1_1 : Bool) (xsh1_1 : LLC) (i8 : Int) : Ex × Fr × Hp := (Ex.exit 4, [(1, V.c (C.sl 3 nl tt zs)), (2, V.ptr 0 0 0 0), (4, V.ptr 1 0 0 0), (8, V.c (C.int IntKind.i64 i8)), (100, V.c (C.bool false))], [O.box [V.c (C.str s), V.c (C.sl 5 nlh0 th0 xs), V.c (C.sl 3 nlh0_1 th0_1 ys)], O.box [V.c (C.str sh1), V.c (C.sl 5 nlh1 th1 xsh1), V.c (C.sl 3 nlh1_1 th1_1 xsh1_1)]])
abbrev c38_0_1 (zs : LLC) (i6 : Int) := (shOk [Sk.str, Sk.slx 5, Sk.slx 5] (zs.getD i6.toNat []))
abbrev c38_0_2 (zs : LLC) (i6 : Int) := (isRows ((zs.getD i6.toNat []).tail.tail.headD C.pnil).xs)
theorem t38_0 (s : Bys) (xs : LLC) (ys : LLC) (nl : OBo) (tt : Bool) (zs : LLC) (i6 : Int) (nlh0 : OBo) (th0 : Bool) (nlh0_1 : OBo) (th0_1 : Bool) (sh1 : Bys) (nlh1 : OBo) (th1 : Bool) (xsh1 : LLC) (nlh1_1 : OBo) (th1_1 : Bool) (xsh1_1 : LLC) : p38.lts b38_0 (s38_0 s xs ys nl tt zs i6 nlh0 th0 nlh0_1 th0_1 sh1 nlh1 th1 xsh1 nlh1_1 th1_1 xsh1_1) = (Tr.br (decide (i6 < (↑zs.length : Int))) (Tr.chk (decide (0 <= i6)) (Tr.chk true (Tr.chk (decide (i6.toNat < zs.length)) (Tr.chk (c38_0_1 zs i6) (Tr.br (!isPath ((zs.getD i6.toNat []).headD C.pnil).st) (Tr.leaf (R.x (x38_0x0 s xs ys nlh0 th0 nlh0_1 th0_1))) (Tr.br (decide (0 < i6)) (Tr.chk (decide (0 <= IntKind.i64.wrap (i6 - 1))) (Tr.chk true (Tr.chk (decide ((IntKind.i64.wrap (i6 - 1)).toNat < zs.length)) (Tr.chk (shOk [Sk.str, Sk.slx 5, Sk.slx 5] (zs.getD (IntKind.i64.wrap (i6 - 1)).toNat [])) (Tr.chk (decide (0 <= i6)) (Tr.chk true (Tr.chk (decide (i6.toNat < zs.length)) (Tr.chk (c38_0_1 zs i6) (Tr.br (!Op.bytesLess ((zs.getD (IntKind.i64.wrap (i6 - 1)).toNat []).headD C.pnil).st ((zs.getD i6.toNat []).headD C.pnil).st) (Tr.leaf (R.x (x38_0x0 s xs ys nlh0 th0 nlh0_1 th0_1))) (Tr.chk (decide (0 <= i6)) (Tr.chk true (Tr.chk (decide (i6.toNat < zs.length)) (Tr.chk (c38_0_1 zs i6) (Tr.chk (isRows ((zs.getD i6.toNat []).tail.headD C.pnil).xs) (Tr.br (!right (toRows ((zs.getD i6.toNat []).tail.headD C.pnil).xs)) (Tr.leaf (R.x (x38_0x0 s xs ys nlh0 th0 nlh0_1 th0_1))) (Tr.chk (decide (0 <= i6)) (Tr.chk true (Tr.chk (decide (i6.toNat < zs.length)) (Tr.chk (c38_0_1 zs i6) (Tr.chk (c38_0_2 zs i6) (Tr.br (!right (toRows ((zs.getD i6.toNat []).tail.tail.headD C.pnil).xs)) (Tr.leaf (R.x (x38_0x0 s xs ys nlh0 th0 nlh0_1 th0_1))) (Tr.chk (decide (0 <= i6)) (Tr.chk true (Tr.chk (decide (i6.toNat < zs.length)) (Tr.chk (c38_0_1 zs i6) (Tr.chk (decide (0 <= i6)) (Tr.chk true (Tr.chk (decide (i6.toNat < zs.length)) (Tr.chk (c38_0_1 zs i6) (Tr.chk (isRows ((zs.getD i6.toNat []).tail.headD C.pnil).xs) (Tr.chk (c38_0_2 zs i6) (Tr.chk (decide (((zs.getD i6.toNat []).tail.headD C.pnil).xs.length <= 9223372036854775807)) (Tr.br (decide (toRows ((zs.getD i6.toNat []).tail.headD C.pnil).xs = toRows ((zs.getD i6.toNat []).tail.tail.headD C.pnil).xs)) (Tr.leaf (R.x (x38_0x0 s xs ys nlh0 th0 nlh0_1 th0_1))) (Tr.leaf (R.s (s38_0 s xs ys nl tt zs (IntKind.i64.wrap (i6 + 1)) nlh0 th0 nlh0_1 th0_1 sh1 nlh1 th1 xsh1 nlh1_1 th1_1 xsh1_1)))))))))))))))))))))))))))))))))))) (Tr.chk (decide (0 <= i6)) (Tr.chk true (Tr.chk (decide (i6.toNat < zs.length)) (Tr.chk (c38_0_1 zs i6) (Tr.chk (isRows ((zs.getD i6.toNat []).tail.headD C.pnil).xs) (Tr.br (!right (toRows ((zs.getD i6.toNat []).tail.headD C.pnil).xs)) (Tr.leaf (R.x (x38_0x0 s xs ys nlh0 th0 nlh0_1 th0_1))) (Tr.chk (decide (0 <= i6)) (Tr.chk true (Tr.chk (decide (i6.toNat < zs.length)) (Tr.chk (c38_0_1 zs i6) (Tr.chk (c38_0_2 zs i6) (Tr.br (!right (toRows ((zs.getD i6.toNat []).tail.tail.headD C.pnil).xs)) (Tr.leaf (R.x (x38_0x0 s xs ys nlh0 th0 nlh0_1 th0_1))) (Tr.chk (decide (0 <= i6)) (Tr.chk true (Tr.chk (decide (i6.toNat < zs.length)) (Tr.chk (c38_0_1 zs i6) (Tr.chk (decide (0 <= i6)) (Tr.chk true (Tr.chk (decide (i6.toNat < zs.length)) (Tr.chk (c38_0_1 zs i6) (Tr.chk (isRows ((zs.getD i6.toNat []).tail.headD C.pnil).xs) (Tr.chk (c38_0_2 zs i6) (Tr.chk (decide (((zs.getD i6.toNat []).tail.headD C.pnil).xs.length <= 9223372036854775807)) (Tr.br (decide (toRows ((zs.getD i6.toNat []).tail.headD C.pnil).xs = toRows ((zs.getD i6.toNat []).tail.tail.headD C.pnil).xs)) (Tr.leaf (R.x (x38_0x0 s xs ys nlh0 th0 nlh0_1 th0_1))) (Tr.leaf (R.s (s38_0 s xs ys nl tt zs (IntKind.i64.wrap (i6 + 1)) nlh0 th0 nlh0_1 th0_1 sh1 nlh1 th1 xsh1 nlh1_1 th1_1 xsh1_1))))))))))))))))))))))))))))))))) (Tr.leaf (R.x (x38_0x1 s xs ys nl tt zs i6 nlh0 th0 nlh0_1 th0_1 sh1 nlh1 th1 xsh1 nlh1_1 th1_1 xsh1_1)))) := by kernel_rfl
theorem k38_0x0 (s : Bys) (xs : LLC) (ys : LLC) (nlh0 : OBo) (th0 : Bool) (nlh0_1 : OBo) (th0_1 : Bool) : p38.fkx 0 (x38_0x0 s xs ys nlh0 th0 nlh0_1 th0_1) = (Tr.leaf (R.out [V.agg [V.c (C.str []), V.c (C.sl 5 none false []), V.c (C.sl 3 none false [])], V.c (C.int IntKind.i64 2)] [])) := by kernel_rfl
theorem t38_1 (s : Bys) (xs : LLC) (ys : LLC) (nl : OBo) (tt : Bool) (zs : LLC) (nlh0 : OBo) (th0 : Bool) (nlh0_1 : OBo) (th0_1 : Bool) (sh1 : Bys) (nlh1 : OBo) (th1 : Bool) (xsh1 : LLC) (nlh1_1 : OBo) (th1_1 : Bool) (xsh1_1 : LLC) (i7 : Int) : p38.lts b38_1 (s38_1 s xs ys nl tt zs nlh0 th0 nlh0_1 th0_1 sh1 nlh1 th1 xsh1 nlh1_1 th1_1 xsh1_1 i7) = (Tr.br (decide (i7 < (↑zs.length : Int))) (Tr.chk (decide (0 <= i7)) (Tr.chk true (Tr.chk (decide (i7.toNat < zs.length)) (Tr.chk (shOk [Sk.str, Sk.slx 5, Sk.slx 5] (zs.getD i7.toNat [])) (Tr.chk (isRows xs) (Tr.chk (isL ys) (Tr.chk (decide ((entT (Nd.node s (toRows xs) (decL ys))).length < 4294967290)) (Tr.chk (decide (0 <= i7)) (Tr.chk true (Tr.chk (decide (i7.toNat < zs.length)) (Tr.chk (shOk [Sk.str, Sk.slx 5, Sk.slx 5] (zs.getD i7.toNat [])) (Tr.chk (isRows (rows (getR (Nd.node s (toRows xs) (decL ys)) ((zs.getD i7.toNat []).headD C.pnil).st))) (Tr.chk (isRows ((zs.getD i7.toNat []).tail.headD C.pnil).xs) (Tr.chk (decide ((rows (getR (Nd.node s (toRows xs) (decL ys)) ((zs.getD i7.toNat []).headD C.pnil).st)).length <= 9223372036854775807)) (Tr.br (!decide (toRows (rows (getR (Nd.node s (toRows xs) (decL ys)) ((zs.getD i7.toNat []).headD C.pnil).st)) = toRows ((zs.getD i7.toNat []).tail.headD C.pnil).xs)) (Tr.leaf (R.x (x38_1x0 s xs ys nlh0 th0 nlh0_1 th0_1))) (Tr.leaf (R.s (s38_1 s xs ys nl tt zs nlh0 th0 nlh0_1 th0_1 sh1 nlh1 th1 xsh1 nlh1_1 th1_1 xsh1_1 (IntKind.i64.wrap (i7 + 1)))))))))))))))))))) (Tr.leaf (R.x (x38_1x1 s xs ys nl tt zs nlh0 th0 nlh0_1 th0_1 sh1 nlh1 th1 xsh1 nlh1_1 th1_1 xsh1_1 i7)))) := by kernel_rfl
theorem k38_1x0 (s : Bys) (xs : LLC) (ys : LLC) (nlh0 : OBo) (th0 : Bool) (nlh0_1 : OBo) (th0_1 : Bool) : p38.fkx 1 (x38_1x0 s xs ys nlh0 th0 nlh0_1 th0_1) = (Tr.leaf (R.out [V.agg [V.c (C.str []), V.c (C.sl 5 none false []), V.c (C.sl 3 none false [])], V.c (C.int IntKind.i64 19)] [])) := by kernel_rfl
theorem t38_2 (s : Bys) (xs : LLC) (ys : LLC) (nl : OBo) (tt : Bool) (zs : LLC) (nlh0 : OBo) (th0 : Bool) (nlh0_1 : OBo) (th0_1 : Bool) (sh1 : Bys) (nlh1 : OBo) (th1 : Bool) (xsh1 : LLC) (nlh1_1 : OBo) (th1_1 : Bool) (xsh1_1 : LLC) (i8 : Int) : p38.lts b38_2 (s38_2 s xs ys nl tt zs nlh0 th0 nlh0_1 th0_1 sh1 nlh1 th1 xsh1 nlh1_1 th1_1 xsh1_1 i8) = (Tr.br (decide (i8 < (↑zs.length : Int))) (Tr.chk (decide (0 <= i8)) (Tr.chk true (Tr.chk (decide (i8.toNat < zs.length)) (Tr.chk (shOk [Sk.str, Sk.slx 5, Sk.slx 5] (zs.getD i8.toNat [])) (Tr.chk (decide (0 <= i8)) (Tr.chk true (Tr.chk (decide (i8.toNat < zs.length)) (Tr.chk (shOk [Sk.str, Sk.slx 5, Sk.slx 5] (zs.getD i8.toNat [])) (Tr.chk (decide (((zs.getD i8.toNat []).tail.tail.headD C.pnil).nl = none)) (Tr.chk (decide (((zs.getD i8.toNat []).tail.tail.headD C.pnil).tt = false)) (Tr.chk (isRows xs) (Tr.chk (isL ys) (Tr.chk (isRows ((zs.getD i8.toNat []).tail.tail.headD C.pnil).xs) (Tr.chk (decide ((entL (decL ys)).length < 1000000000)) (Tr.leaf (R.s (s38_2 ((putP (Nd.node s (toRows xs) (decL ys)) ((zs.getD i8.toNat []).headD C.pnil).st (toRows ((zs.getD i8.toNat []).tail.tail.headD C.pnil).xs)).fst.lab) (rows (putP (Nd.node s (toRows xs) (decL ys)) ((zs.getD i8.toNat []).headD C.pnil).st (toRows ((zs.getD i8.toNat []).tail.tail.headD C.pnil).xs)).fst.rows) (encL (putP (Nd.node s (toRows xs) (decL ys)) ((zs.getD i8.toNat []).headD C.pnil).st (toRows ((zs.getD i8.toNat []).tail.tail.headD C.pnil).xs)).fst.kids) nl tt zs (none) false (none) false sh1 nlh1 th1 xsh1 nlh1_1 th1_1 xsh1_1 (IntKind.i64.wrap (i8 + 1))))))))))))))))))) (Tr.leaf (R.x (x38_2x0 s xs ys nl tt zs nlh0 th0 nlh0_1 th0_1 sh1 nlh1 th1 xsh1 nlh1_1 th1_1 xsh1_1 i8)))) := by kernel_rfl
theorem k38_2x0 (s : Bys) (xs : LLC) (ys : LLC) (nl : OBo) (tt : Bool) (zs : LLC) (nlh0 : OBo) (th0 : Bool) (nlh0_1 : OBo) (th0_1 : Bool) (sh1 : Bys) (nlh1 : OBo) (th1 : Bool) (xsh1 : LLC) (nlh1_1 : OBo) (th1_1 : Bool) (xsh1_1 : LLC) (i8 : Int) : p38.fkx 2 (x38_2x0 s xs ys nl tt zs nlh0 th0 nlh0_1 th0_1 sh1 nlh1 th1 xsh1 nlh1_1 th1_1 xsh1_1 i8) = (Tr.leaf (R.out [V.agg [V.c (C.str s), V.c (C.sl 5 none false xs), V.c (C.sl 3 none false ys)], V.c (C.int IntKind.i64 0)] [])) := by kernel_rfl
theorem k38_1x1 (s : Bys) (xs : LLC) (ys : LLC) (nl : OBo) (tt : Bool) (zs : LLC) (nlh0 : OBo) (th0 : Bool) (nlh0_1 : OBo) (th0_1 : Bool) (sh1 : Bys) (nlh1 : OBo) (th1 : Bool) (xsh1 : LLC) (nlh1_1 : OBo) (th1_1 : Bool) (xsh1_1 : LLC) (i7 : Int) : p38.fkx 1 (x38_1x1 s xs ys nl tt zs nlh0 th0 nlh0_1 th0_1 sh1 nlh1 th1 xsh1 nlh1_1 th1_1 xsh1_1 i7) = (Tr.ls 2 (s38_2 s xs ys nl tt zs nlh0 th0 nlh0_1 th0_1 sh1 nlh1 th1 xsh1 nlh1_1 th1_1 xsh1_1 (0))) := by kernel_rfl
theorem k38_0x1 (s : Bys) (xs : LLC) (ys : LLC) (nl : OBo) (tt : Bool) (zs : LLC) (i6 : Int) (nlh0 : OBo) (th0 : Bool) (nlh0_1 : OBo) (th0_1 : Bool) (sh1 : Bys) (nlh1 : OBo) (th1 : Bool) (xsh1 : LLC) (nlh1_1 : OBo) (th1_1 : Bool) (xsh1_1 : LLC) : p38.fkx 0 (x38_0x1 s xs ys nl tt zs i6 nlh0 th0 nlh0_1 th0_1 sh1 nlh1 th1 xsh1 nlh1_1 th1_1 xsh1_1) = (Tr.ls 1 (s38_1 s xs ys nl tt zs nlh0 th0 nlh0_1 th0_1 sh1 nlh1 th1 xsh1 nlh1_1 th1_1 xsh1_1 (0))) := by kernel_rfl
theorem t38 (s : Bys) (xs : LLC) (ys : LLC) (nl : OBo) (tt : Bool) (zs : LLC) : p38.ft ([V.agg [V.c (C.str s), V.c (C.sl 5 none false xs), V.c (C.sl 3 none false ys)], V.c (C.sl 3 nl tt zs)]) ([]) = (Tr.chk (isRows xs) (Tr.chk (isL ys) (Tr.br (!okR (Nd.node s (toRows xs) (decL ys))) (Tr.leaf (R.out [V.agg [V.c (C.str []), V.c (C.sl 5 none false []), V.c (C.sl 3 none false [])], V.c (C.int IntKind.i64 2)] [])) (Tr.ls 0 (s38_0 s xs ys nl tt zs (0) (none) false (none) false ([]) (some true) true ([]) (some true) true ([])))))) := by kernel_rfl
def s38 : CSpec := fun a h => match a, h with
 | [.agg [.c (.str s), .c (.sl 5 none false xs), .c (.sl 3 none false ys)], .c (.sl 3 nl tt zs)], [] => some ([isRows xs, isL ys, isCgs zs, cgNN (toCgs zs), decide (zs.length <= 1000), decide ((entL (decL ys)).length < 100000000)], [VT (repP (.node s (toRows xs) (decL ys)) (toCgs zs)).1, V.i (repP (.node s (toRows xs) (decL ys)) (toCgs zs)).2], [])
 | _, _ => none
def cgOk (l : List Cg) : Bool := l.all fun c => decide (c.n2 ≠ some true \/ c.b = [])
def s37 : CSpec := fun a h => match a, h with
 | [.agg [.c (.str s), .c (.sl 5 none false xs), .c (.sl 3 none false ys)], .c (.sl 3 nl tt zs)], [] => some ([isRows xs, isL ys, isCgs zs, decide (zs.length <= 9223372036854775807), cgOk (toCgs zs)], [VT (repP (.node s (toRows xs) (decL ys)) (toCgs zs)).1, V.i (repP (.node s (toRows xs) (decL ys)) (toCgs zs)).2], [])
 | _, _ => none
noncomputable abbrev p5 : Par := par E sh (ctOf [(14, s14n), (34, s34), (35, s35), (36, s36), (37, s37), (38, s38), (39, s39), (40, s40), (41, s41)]) 5 3 0
abbrev s5_0 (s : Bys) (xs : LLC) (ys : LLC) (s2 : Bys) (xs2 : LLC) (ys2 : LLC) (zs : LLC) (nl2 : OBo) (t2 : Bool) (i7 : Int) (nlh0 : OBo) (th0 : Bool) (nlh0_1 : OBo) (th0_1 : Bool) (nlh1 : OBo) (th1 : Bool) (nlh1_1 : OBo) (th1_1 : Bool) : Fr × Hp := ([(2, V.c (C.sl 3 nl2 t2 zs)), (3, V.ptr 0 0 0 0), (4, V.ptr 1 0 0 0), (7, V.c (C.int IntKind.i64 i7))], [O.box [V.c (C.str s), V.c (C.sl 5 nlh0 th0 xs), V.c (C.sl 3 nlh0_1 th0_1 ys)], O.box [V.c (C.str s2), V.c (C.sl 5 nlh1 th1 xs2), V.c (C.sl 3 nlh1_1 th1_1 ys2)]])
noncomputable abbrev b5_0 : Code := loopAt (codeOf E (5)) 0
abbrev x5_0x0 (s : Bys) (xs : LLC) (ys : LLC) (s2 : Bys) (xs2 : LLC) (ys2 : LLC) (nlh0 : OBo) (th0 : Bool) (nlh0_1 : OBo) (th0_1 : Bool) (nlh1 : OBo) (th1 : Bool) (nlh1_1 : OBo) (th1_1 : Bool) : Ex × Fr × Hp := (Ex.ret, [(6, V.c (C.bool true))], [O.box [V.c (C.str s), V.c (C.sl 5 nlh0 th0 xs), V.c (C.sl 3 nlh0_1 th0_1 ys)], O.box [V.c (C.str s2), V.c (C.sl 5 nlh1 th1 xs2), V.c (C.sl 3 nlh1_1 th1_1 ys2)]])
abbrev x5_0x1 (s : Bys) (xs : LLC) (ys : LLC) (s2 : Bys) (xs2 : LLC) (ys2 : LLC) (zs : LLC) (nl2 : OBo) (t2 : Bool) (i7 : Int) (nlh0 : OBo) (th0 : Bool) (nlh0_1 : OBo) (th0_1 : Bool) (nlh1 : OBo) (th1 : Bool) (nlh1_1 : OBo) (th1_1 : Bool) : Ex × Fr × Hp := (Ex.exit 0, [(2, V.c (C.sl 3 nl2 t2 zs)), (3, V.ptr 0 0 0 0), (4, V.ptr 1 0 0 0), (7, V.c (C.int IntKind.i64 i7)), (29, V.c (C.bool false))], [O.box [V.c (C.str s), V.c (C.sl 5 nlh0 th0 xs), V.c (C.sl 3 nlh0_1 th0_1 ys)], O.box [V.c (C.str s2), V.c (C.sl 5 nlh1 th1 xs2), V.c (C.sl 3 nlh1_1 th1_1 ys2)]])
theorem t5_0 (s : Bys) (xs : LLC) (ys : LLC) (s2 : Bys) (xs2 : LLC) (ys2 : LLC) (zs : LLC) (nl2 : OBo) (t2 : Bool) (i7 : Int) (nlh0 : OBo) (th0 : Bool) (nlh0_1 : OBo) (th0_1 : Bool) (nlh1 : OBo) (th1 : Bool) (nlh1_1 : OBo) (th1_1 : Bool) : p5.lts b5_0 (s5_0 s xs ys s2 xs2 ys2 zs nl2 t2 i7 nlh0 th0 nlh0_1 th0_1 nlh1 th1 nlh1_1 th1_1) = (Tr.br (decide (i7 < (↑zs.length : Int))) (Tr.chk (decide (0 <= i7)) (Tr.chk true (Tr.chk (decide (i7.toNat < zs.length)) (Tr.chk (shOk [Sk.str, Sk.slx 5, Sk.slx 5] (zs.getD i7.toNat [])) (Tr.br (decide (100 < (↑((zs.getD i7.toNat []).headD C.pnil).st.length : Int))) (Tr.leaf (R.x (x5_0x0 s xs ys s2 xs2 ys2 nlh0 th0 nlh0_1 th0_1 nlh1 th1 nlh1_1 th1_1))) (Tr.chk (decide (0 <= i7)) (Tr.chk true (Tr.chk (decide (i7.toNat < zs.length)) (Tr.chk (shOk [Sk.str, Sk.slx 5, Sk.slx 5] (zs.getD i7.toNat [])) (Tr.chk (isRows ((zs.getD i7.toNat []).tail.headD C.pnil).xs) (Tr.br (!shortR (toRows ((zs.getD i7.toNat []).tail.headD C.pnil).xs)) (Tr.leaf (R.x (x5_0x0 s xs ys s2 xs2 ys2 nlh0 th0 nlh0_1 th0_1 nlh1 th1 nlh1_1 th1_1))) (Tr.chk (decide (0 <= i7)) (Tr.chk true (Tr.chk (decide (i7.toNat < zs.length)) (Tr.chk (shOk [Sk.str, Sk.slx 5, Sk.slx 5] (zs.getD i7.toNat [])) (Tr.chk (isRows ((zs.getD i7.toNat []).tail.tail.headD C.pnil).xs) (Tr.br (!shortR (toRows ((zs.getD i7.toNat []).tail.tail.headD C.pnil).xs)) (Tr.leaf (R.x (x5_0x0 s xs ys s2 xs2 ys2 nlh0 th0 nlh0_1 th0_1 nlh1 th1 nlh1_1 th1_1))) (Tr.leaf (R.s (s5_0 s xs ys s2 xs2 ys2 zs nl2 t2 (IntKind.i64.wrap (i7 + 1)) nlh0 th0 nlh0_1 th0_1 nlh1 th1 nlh1_1 th1_1)))))))))))))))))))) (Tr.leaf (R.x (x5_0x1 s xs ys s2 xs2 ys2 zs nl2 t2 i7 nlh0 th0 nlh0_1 th0_1 nlh1 th1 nlh1_1 th1_1)))) := by kernel_rfl
theorem k5_0x0 (s : Bys) (xs : LLC) (ys : LLC) (s2 : Bys) (xs2 : LLC) (ys2 : LLC) (nlh0 : OBo) (th0 : Bool) (nlh0_1 : OBo) (th0_1 : Bool) (nlh1 : OBo) (th1 : Bool) (nlh1_1 : OBo) (th1_1 : Bool) : p5.fkx 0 (x5_0x0 s xs ys s2 xs2 ys2 nlh0 th0 nlh0_1 th0_1 nlh1 th1 nlh1_1 th1_1) = (Tr.leaf (R.out [V.c (C.bool true)] [])) := by kernel_rfl
theorem t5 (s : Bys) (xs : LLC) (ys : LLC) (s2 : Bys) (xs2 : LLC) (ys2 : LLC) (zs : LLC) : p5.ft ([V.agg [V.c (C.str s), V.c (C.sl 5 none false xs), V.c (C.sl 3 none false ys)], V.agg [V.c (C.str s2), V.c (C.sl 5 none false xs2), V.c (C.sl 3 none false ys2)], V.c (C.sl 3 none false zs)]) ([]) = (Tr.chk (isRows xs) (Tr.chk (isL ys) (Tr.chk (lensT (Nd.node s (toRows xs) (decL ys))) (Tr.br (!smallD (Nd.node s (toRows xs) (decL ys))) (Tr.leaf (R.out [V.c (C.bool true)] [])) (Tr.chk (isRows xs2) (Tr.chk (isL ys2) (Tr.chk (lensT (Nd.node s2 (toRows xs2) (decL ys2))) (Tr.br (!smallD (Nd.node s2 (toRows xs2) (decL ys2))) (Tr.leaf (R.out [V.c (C.bool true)] [])) (Tr.br (decide (60 < (↑zs.length : Int))) (Tr.leaf (R.out [V.c (C.bool true)] [])) (Tr.ls 0 (s5_0 s xs ys s2 xs2 ys2 zs (none) false (0) (none) false (none) false (none) false (none) false))))))))))) := by kernel_rfl
theorem t5e (s : Bys) (xs : LLC) (ys : LLC) (s2 : Bys) (xs2 : LLC) (ys2 : LLC) (zs : LLC) (i7 : Int) : p5.fkx 0 (Ex.exit 0, [(2, V.c (C.sl 3 none false zs)), (3, V.ptr 0 0 0 0), (4, V.ptr 1 0 0 0), (7, V.c (C.int IntKind.i64 i7)), (29, V.c (C.bool false))], [O.box [V.c (C.str s), V.c (C.sl 5 none false xs), V.c (C.sl 3 none false ys)], O.box [V.c (C.str s2), V.c (C.sl 5 none false xs2), V.c (C.sl 3 none false ys2)]]) = (Tr.chk (isRows xs) (Tr.chk (isL ys) (Tr.chk (isCgs zs) (Tr.chk (decide (zs.length <= 9223372036854775807)) (Tr.chk (cgOk (toCgs zs)) (Tr.chk (isRows xs) (Tr.chk (isL ys) (Tr.chk (isCgs zs) (Tr.chk (cgNN (toCgs zs)) (Tr.chk (decide (zs.length <= 1000)) (Tr.chk (decide ((entL (decL ys)).length < 100000000)) (Tr.chk (isRows xs) (Tr.chk (isL ys) (Tr.chk (isRows xs2) (Tr.chk (isL ys2) (Tr.chk (decide ((entL (decL ys)).length < 1000000000)) (Tr.chk (decide ((entL (decL ys2)).length < 1000000000)) (Tr.chk (isRows xs) (Tr.chk (isL ys) (Tr.chk (isRows xs2) (Tr.chk (isL ys2) (Tr.chk (decide ((entL (decL ys)).length < 1000000000)) (Tr.chk (decide ((entL (decL ys2)).length < 1000000000)) (Tr.chk (isCgs (chgs (chgP (Nd.node s (toRows xs) (decL ys)) (Nd.node s2 (toRows xs2) (decL ys2))))) (Tr.chk (eqbLL (chgs (chgP (Nd.node s (toRows xs) (decL ys)) (Nd.node s2 (toRows xs2) (decL ys2)))) (chgs (chgP (Nd.node s (toRows xs) (decL ys)) (Nd.node s2 (toRows xs2) (decL ys2))))) (Tr.chk (decide ((chgs (chgP (Nd.node s (toRows xs) (decL ys)) (Nd.node s2 (toRows xs2) (decL ys2)))).length < 4294967296)) (Tr.chk (cgLen (toCgs (chgs (chgP (Nd.node s (toRows xs) (decL ys)) (Nd.node s2 (toRows xs2) (decL ys2)))))) (Tr.br true (Tr.chk (isRows (rows (repP (Nd.node s (toRows xs) (decL ys)) (toCgs zs)).fst.rows)) (Tr.chk (isL (encL (repP (Nd.node s (toRows xs) (decL ys)) (toCgs zs)).fst.kids)) (Tr.chk (isRows (rows (repP (Nd.node s (toRows xs) (decL ys)) (toCgs zs)).fst.rows)) (Tr.chk (isL (encL (repP (Nd.node s (toRows xs) (decL ys)) (toCgs zs)).fst.kids)) (Tr.chk (lensT (Nd.node (repP (Nd.node s (toRows xs) (decL ys)) (toCgs zs)).fst.lab (toRows (rows (repP (Nd.node s (toRows xs) (decL ys)) (toCgs zs)).fst.rows)) (decL (encL (repP (Nd.node s (toRows xs) (decL ys)) (toCgs zs)).fst.kids)))) (Tr.br (sameT (Nd.node (repP (Nd.node s (toRows xs) (decL ys)) (toCgs zs)).fst.lab (toRows (rows (repP (Nd.node s (toRows xs) (decL ys)) (toCgs zs)).fst.rows)) (decL (encL (repP (Nd.node s (toRows xs) (decL ys)) (toCgs zs)).fst.kids))) (Nd.node (repP (Nd.node s (toRows xs) (decL ys)) (toCgs zs)).fst.lab (toRows (rows (repP (Nd.node s (toRows xs) (decL ys)) (toCgs zs)).fst.rows)) (decL (encL (repP (Nd.node s (toRows xs) (decL ys)) (toCgs zs)).fst.kids)))) (Tr.br ((repP (Nd.node s (toRows xs) (decL ys)) (toCgs zs)).snd == (repP (Nd.node s (toRows xs) (decL ys)) (toCgs zs)).snd) (Tr.leaf (R.out [V.c (C.bool true)] [])) (Tr.leaf (R.out [V.c (C.bool false)] []))) (Tr.leaf (R.out [V.c (C.bool false)] [])))))))) (Tr.leaf (R.out [V.c (C.bool false)] [])))))))))))))))))))))))))))))) := by kernel_rfl
end Go.Proofs.YtgaabjmbnomimaaGreatDoor
namespace Go.Proofs.YtgaabjmbnomimaaGreatDoor
open Go Go.Ev
theorem refC_len : ∀ (n : Nat) (x y : List Ent), x.length + y.length < n -> (refC x y).length <= x.length + y.length
 | 0, _, _, h => by omega
 | n + 1, [], [], _ => by rw [refC]; simp
 | n + 1, e :: x, [], h => by
   have := refC_len n x [] (by simp at h ⊢; omega)
   rw [refC]; simp at this ⊢; omega
 | n + 1, [], f :: y, h => by
   have := refC_len n [] y (by simp at h ⊢; omega)
   rw [refC]; simp at this ⊢; omega
 | n + 1, e :: x, f :: y, h => by
   have h1 := refC_len n x (f :: y) (by simp at h ⊢; omega)
   have h2 := refC_len n (e :: x) y (by simp at h ⊢; omega)
   have h3 := refC_len n x y (by simp at h ⊢; omega)
   rw [refC]
   simp only [List.length_cons] at *
   split
   · simp; omega
   · split
     · simp; omega
     · split <;> simp <;> omega
theorem ee_a (e : Ent) (d d' : C) (h : e.2 ≠ []) : [Sk.str.mk ((ee e).headD d), (Sk.sl 5).mk ((ee e).tail.headD d'), C.sl 5 (some true) true []] = chgC ⟨e.1, e.2, [], []⟩ := by
 obtain ⟨p, rs⟩ := e
 cases rs with
 | nil => exact absurd rfl h
 | cons a r => rfl
theorem ee_b (e : Ent) (d d' : C) (h : e.2 ≠ []) : [Sk.str.mk ((ee e).headD d), C.sl 5 (some true) true [], (Sk.sl 5).mk ((ee e).tail.headD d')] = chgC ⟨e.1, [], e.2, []⟩ := by
 obtain ⟨p, rs⟩ := e
 cases rs with
 | nil => exact absurd rfl h
 | cons a r => rfl
theorem ee_c (e f : Ent) (d d' d'' : C) (h : e.2 ≠ []) (k : f.2 ≠ []) : [Sk.str.mk ((ee e).headD d), (Sk.sl 5).mk ((ee e).tail.headD d'), (Sk.sl 5).mk ((ee f).tail.headD d'')] = chgC ⟨e.1, e.2, f.2, []⟩ := by
 obtain ⟨p, rs⟩ := e
 obtain ⟨q, us⟩ := f
 cases rs with
 | nil => exact absurd rfl h
 | cons a r => cases us with
   | nil => exact absurd rfl k
   | cons b s => rfl
theorem chgs_snoc' (X : List Sd) (s : Sd) : chgs X ++ [chgC s] = chgs (X ++ [s]) := by simp [chgs]
theorem f94 (nl : OBo) (tt : Bool) (x : List Ent) (nl2 : OBo) (t2 : Bool) (y : List Ent) (hx : x.length < 1000000000) (hy : y.length < 1000000000) (hl : rowsLen x = true) (rx : rneB x = true) (ry : rneB y = true) :
   call E 94 [.c (.sl 2 nl tt (ents x)), .c (.sl 2 nl2 t2 (ents y))] [] = some ([.c (.sl 3 none false (chgs (refC x y)))], []) := by
 have hct : (ctOf [(26, s26)]).ok E := ctOf_cons s26_ok ctOf_nil
 refine call_of (E := E) (sh := sh) (ct := ctOf [(26, s26)]) (na := 2) (m := 0) hct rfl rfl rfl rfl rfl rfl ?_
 have hnx : ∀ i (h : i < x.length), x[i].2 ≠ [] := fun i h => by
   have := List.all_eq_true.1 rx _ (List.getElem_mem h)
   simpa using this
 have hny : ∀ i (h : i < y.length), y[i].2 ≠ [] := fun i h => by
   have := List.all_eq_true.1 ry _ (List.getElem_mem h)
   simpa using this
 have hlx : ∀ i (h : i < x.length), x[i].2.length <= 9223372036854775807 := fun i h => by
   have := List.all_eq_true.1 hl _ (List.getElem_mem h)
   simpa using this
 have hle := refC_len _ x y (Nat.lt_succ_self _)
 rw [t94]
 refine fd_post hct (by kernel_rfl) rfl (loops_post (p := p94) hct (b := b94_0) (ι := Nat × Nat × List Sd) (fun s => s94_0 nl tt (ents x) nl2 t2 (ents y) s.2.2.length s.1 s.2.1 (chgs s.2.2))
   (fun s => s.1 <= x.length /\ s.2.1 <= y.length /\ s.2.2 ++ refC (x.drop s.1) (y.drop s.2.1) = refC x y) (fun s => (x.length - s.1) + (y.length - s.2.1)) _ ?_ (0, 0, []) ⟨Nat.zero_le _, Nat.zero_le _, by simp⟩)
 rintro ⟨i, k, out⟩ ⟨h1, h2, h3⟩
 simp only at h1 h2 h3 ⊢
 have hb : out.length + (refC (x.drop i) (y.drop k)).length <= x.length + y.length := by
   have := congrArg List.length h3
   rw [List.length_append] at this; omega
 have tk : ∀ s : Sd, List.take out.length (chgs out) ++ [chgC s] = chgs (out ++ [s]) := fun s => by rw [chgs_take, chgs_snoc']
 rw [t94_0]
 unfold c94_0_1 c94_0_2 c94_0_3 c94_0_4 c94_0_5 c94_0_6
 by_cases c1 : i < x.length
 · have w1 := wrap_succ (show i < 9223372036854775807 by omega)
   by_cases c2 : k < y.length
   · have w2 := wrap_succ (show k < 9223372036854775807 by omega)
     have n1 : ¬ (i : Int) = x.length := by omega
     have n2 : ¬ (k : Int) = y.length := by omega
     rw [List.drop_eq_getElem_cons c1, List.drop_eq_getElem_cons c2, refC] at h3 hb
     have q1 : ((k : Int) == (y.length : Int)) = false := by rw [beq_eq_false_iff_ne]; omega
     have q2 : ((i : Int) == (x.length : Int)) = false := by rw [beq_eq_false_iff_ne]; omega
     by_cases b1 : Op.bytesLess x[i].1 y[k].1 = true
     · rw [if_pos b1] at h3 hb
       rw [List.length_cons] at hb
       refine .inl ⟨(i + 1, k, out ++ [⟨x[i].1, x[i].2, [], []⟩]), ⟨by dsimp only; omega, h2, by dsimp only; rw [List.drop_eq_getElem_cons c2, <- h3]; simp⟩, by dsimp only; omega, ?_⟩
       simp only [ld_br, ld_chk', ld_leaf, fd_br, fd_chk', fd_leaf, decide_true, decide_eq_true_eq, if_true, Int.toNat_natCast, Int.natCast_nonneg, Int.ofNat_lt, Int.ofNat_le, Bool.false_eq_true, if_false, bne_iff_ne, beq_iff_eq, ne_eq, not_true_eq_false, not_false_eq_true, Bool.not_eq_true', decide_eq_false_iff_not, reduceCtorEq, rows_length, er_ok, er_ok', dr_er, isRows_rows, toRows_rows, rows_take, rows_drop, rows_append, ints_length, isInts_ints, toInts_ints, ei_i, ei_ok, mk_headD, ints_take, ints_drop, ints_append, ints_snoc, ints_snoc', List.take_length, Nat.zero_add, Nat.le_refl, er_a, er_b, er_k, er_n, er_s, er_v, ents_length, c1, c2, q1, q2, ents_getD c1, ents_getD c2, ee_ok, ee_p, ee_r, b1, w1, ee_a _ _ _ (hnx i c1), tk, show out.length + 1 < 4294967296 by omega, List.length_append, List.length_cons, List.length_nil]
     · rw [if_neg b1] at h3 hb
       by_cases b2 : Op.bytesLess y[k].1 x[i].1 = true
       · rw [if_pos b2] at h3 hb
         rw [List.length_cons] at hb
         refine .inl ⟨(i, k + 1, out ++ [⟨y[k].1, [], y[k].2, []⟩]), ⟨h1, by dsimp only; omega, by dsimp only; rw [List.drop_eq_getElem_cons c1, <- h3]; simp⟩, by dsimp only; omega, ?_⟩
         simp only [ld_br, ld_chk', ld_leaf, fd_br, fd_chk', fd_leaf, decide_true, decide_eq_true_eq, if_true, Int.toNat_natCast, Int.natCast_nonneg, Int.ofNat_lt, Int.ofNat_le, Bool.false_eq_true, if_false, bne_iff_ne, beq_iff_eq, ne_eq, not_true_eq_false, not_false_eq_true, Bool.not_eq_true', decide_eq_false_iff_not, reduceCtorEq, rows_length, er_ok, er_ok', dr_er, isRows_rows, toRows_rows, rows_take, rows_drop, rows_append, ints_length, isInts_ints, toInts_ints, ei_i, ei_ok, mk_headD, ints_take, ints_drop, ints_append, ints_snoc, ints_snoc', List.take_length, Nat.zero_add, Nat.le_refl, er_a, er_b, er_k, er_n, er_s, er_v, ents_length, c1, c2, q1, q2, ents_getD c1, ents_getD c2, ee_ok, ee_p, ee_r, b1, b2, w2, ee_b _ _ _ (hny k c2), tk, show out.length + 1 < 4294967296 by omega, List.length_append, List.length_cons, List.length_nil]
       · rw [if_neg b2] at h3 hb
         by_cases b3 : x[i].2 = y[k].2
         · rw [if_pos b3, List.nil_append] at h3 hb
           refine .inl ⟨(i + 1, k + 1, out), ⟨by dsimp only; omega, by dsimp only; omega, by dsimp only; rw [<- h3]⟩, by dsimp only; omega, ?_⟩
           have hk := hlx i c1
           rw [b3] at hk
           simp only [ld_br, ld_chk', ld_leaf, fd_br, fd_chk', fd_leaf, decide_true, decide_eq_true_eq, if_true, Int.toNat_natCast, Int.natCast_nonneg, Int.ofNat_lt, Int.ofNat_le, Bool.false_eq_true, if_false, bne_iff_ne, beq_iff_eq, ne_eq, not_true_eq_false, not_false_eq_true, Bool.not_eq_true', decide_eq_false_iff_not, reduceCtorEq, rows_length, er_ok, er_ok', dr_er, isRows_rows, toRows_rows, rows_take, rows_drop, rows_append, ints_length, isInts_ints, toInts_ints, ei_i, ei_ok, mk_headD, ints_take, ints_drop, ints_append, ints_snoc, ints_snoc', List.take_length, Nat.zero_add, Nat.le_refl, er_a, er_b, er_k, er_n, er_s, er_v, ents_length, c1, c2, q1, q2, ents_getD c1, ents_getD c2, ee_ok, ee_p, ee_r, b1, b2, b3, w1, w2, hk]
         · rw [if_neg b3] at h3 hb
           rw [List.length_append, List.length_cons] at hb
           refine .inl ⟨(i + 1, k + 1, out ++ [⟨x[i].1, x[i].2, y[k].2, []⟩]), ⟨by dsimp only; omega, by dsimp only; omega, by dsimp only; rw [<- h3]; simp⟩, by dsimp only; omega, ?_⟩
           simp only [ld_br, ld_chk', ld_leaf, fd_br, fd_chk', fd_leaf, decide_true, decide_eq_true_eq, if_true, Int.toNat_natCast, Int.natCast_nonneg, Int.ofNat_lt, Int.ofNat_le, Bool.false_eq_true, if_false, bne_iff_ne, beq_iff_eq, ne_eq, not_true_eq_false, not_false_eq_true, Bool.not_eq_true', decide_eq_false_iff_not, reduceCtorEq, rows_length, er_ok, er_ok', dr_er, isRows_rows, toRows_rows, rows_take, rows_drop, rows_append, ints_length, isInts_ints, toInts_ints, ei_i, ei_ok, mk_headD, ints_take, ints_drop, ints_append, ints_snoc, ints_snoc', List.take_length, Nat.zero_add, Nat.le_refl, er_a, er_b, er_k, er_n, er_s, er_v, ents_length, c1, c2, q1, q2, ents_getD c1, ents_getD c2, ee_ok, ee_p, ee_r, b1, b2, b3, w1, w2, hlx i c1, ee_c _ _ _ _ _ (hnx i c1) (hny k c2), tk, show out.length + 1 < 4294967296 by omega, List.length_append, List.length_cons, List.length_nil]
   · have e2 : k = y.length := by omega
     subst e2
     rw [List.drop_eq_getElem_cons c1, List.drop_length, refC, List.length_cons] at hb
     rw [List.drop_eq_getElem_cons c1, List.drop_length, refC] at h3
     refine .inl ⟨(i + 1, y.length, out ++ [⟨x[i].1, x[i].2, [], []⟩]), ⟨by dsimp only; omega, h2, by dsimp only; rw [List.drop_length, <- h3]; simp⟩, by dsimp only; omega, ?_⟩
     simp only [ld_br, ld_chk', ld_leaf, fd_br, fd_chk', fd_leaf, decide_true, decide_eq_true_eq, if_true, Int.toNat_natCast, Int.natCast_nonneg, Int.ofNat_lt, Int.ofNat_le, Bool.false_eq_true, if_false, bne_iff_ne, beq_iff_eq, ne_eq, not_true_eq_false, not_false_eq_true, Bool.not_eq_true', decide_eq_false_iff_not, reduceCtorEq, rows_length, er_ok, er_ok', dr_er, isRows_rows, toRows_rows, rows_take, rows_drop, rows_append, ints_length, isInts_ints, toInts_ints, ei_i, ei_ok, mk_headD, ints_take, ints_drop, ints_append, ints_snoc, ints_snoc', List.take_length, Nat.zero_add, Nat.le_refl, er_a, er_b, er_k, er_n, er_s, er_v, ents_length, c1, ents_getD c1, ee_ok, ee_p, ee_r, w1, beq_self_eq_true, ee_a _ _ _ (hnx i c1), tk, show out.length + 1 < 4294967296 by omega, List.length_append, List.length_cons, List.length_nil]
 · have e1 : i = x.length := by omega
   subst e1
   by_cases c2 : k < y.length
   · have w2 := wrap_succ (show k < 9223372036854775807 by omega)
     rw [List.drop_eq_getElem_cons c2, List.drop_length, refC, List.length_cons] at hb
     rw [List.drop_eq_getElem_cons c2, List.drop_length, refC] at h3
     have q1 : ((k : Int) == (y.length : Int)) = false := by rw [beq_eq_false_iff_ne]; omega
     refine .inl ⟨(x.length, k + 1, out ++ [⟨y[k].1, [], y[k].2, []⟩]), ⟨h1, by dsimp only; omega, by dsimp only; rw [List.drop_length, <- h3]; simp⟩, by dsimp only; omega, ?_⟩
     simp only [ld_br, ld_chk', ld_leaf, fd_br, fd_chk', fd_leaf, decide_true, decide_eq_true_eq, if_true, Int.toNat_natCast, Int.natCast_nonneg, Int.ofNat_lt, Int.ofNat_le, Bool.false_eq_true, if_false, bne_iff_ne, beq_iff_eq, ne_eq, not_true_eq_false, not_false_eq_true, Bool.not_eq_true', decide_eq_false_iff_not, reduceCtorEq, rows_length, er_ok, er_ok', dr_er, isRows_rows, toRows_rows, rows_take, rows_drop, rows_append, ints_length, isInts_ints, toInts_ints, ei_i, ei_ok, mk_headD, ints_take, ints_drop, ints_append, ints_snoc, ints_snoc', List.take_length, Nat.zero_add, Nat.le_refl, er_a, er_b, er_k, er_n, er_s, er_v, ents_length, c2, q1, Int.lt_irrefl, ents_getD c2, ee_ok, ee_p, ee_r, w2, beq_self_eq_true, ee_b _ _ _ (hny k c2), tk, show out.length + 1 < 4294967296 by omega, List.length_append, List.length_cons, List.length_nil]
   · have e2 : k = y.length := by omega
     subst e2
     rw [List.drop_length, List.drop_length, refC, List.append_nil] at h3
     refine .inr ⟨x94_0x0 nl tt (ents x) nl2 t2 (ents y) out.length x.length y.length (chgs out), by simp, by rw [k94_0x0, fd_leaf, chgs_take, h3], ?_⟩
     simp only [ld_br, ld_chk', ld_leaf, fd_br, fd_chk', fd_leaf, decide_true, decide_eq_true_eq, if_true, Int.toNat_natCast, Int.natCast_nonneg, Int.ofNat_lt, Int.ofNat_le, Bool.false_eq_true, if_false, bne_iff_ne, beq_iff_eq, ne_eq, not_true_eq_false, not_false_eq_true, Bool.not_eq_true', decide_eq_false_iff_not, reduceCtorEq, rows_length, er_ok, er_ok', dr_er, isRows_rows, toRows_rows, rows_take, rows_drop, rows_append, ints_length, isInts_ints, toInts_ints, ei_i, ei_ok, mk_headD, ints_take, ints_drop, ints_append, ints_snoc, ints_snoc', List.take_length, Nat.zero_add, Nat.le_refl, er_a, er_b, er_k, er_n, er_s, er_v, ents_length, Int.lt_irrefl]
theorem s94_ok : CSpecOk E 94 s94 := by
 intro a h cs vals h' he hc
 unfold s94 at he
 split at he <;> simp only [Option.some.injEq, Prod.mk.injEq, reduceCtorEq] at he
 rename_i nl tt xs nl2 t2 ys
 obtain ⟨rfl, rfl, rfl⟩ := he
 simp only [allT, Bool.and_true, Bool.and_eq_true, decide_eq_true_eq] at hc
 obtain ⟨h1, h2, h3, h4, h5, h6, h7⟩ := hc
 obtain ⟨x, rfl⟩ := ents_ex h1
 obtain ⟨y, rfl⟩ := ents_ex h2
 rw [ents_length] at h3 h4
 rw [toEs_ents] at h5 h6 h7
 simp only [toEs_ents]
 exact f94 nl tt x nl2 t2 y h3 h4 h5 h6 h7
theorem rneB_P (t : Nd) : rneB (entP t) = true := by
 rw [rneB, List.all_eq_true]
 intro e he
 have := (gd_entP t).rne e he
 simpa using this
theorem rowsLen_P (t : Nd) : rowsLen (entP t) = true := by
 rw [rowsLen, List.all_eq_true]
 intro e he
 exact decide_eq_true (right_len63 ((gd_entP t).right e he))
theorem f41 (a b : Nd) (ha : (entL a.kids).length < 1000000000) (hb : (entL b.kids).length < 1000000000) : call E 41 [VT a, VT b] [] = some ([.c (.sl 3 none false (chgs (chgP a b)))], []) := by
 have hct : (ctOf [(70, s70), (75, s75), (94, s94)]).ok E := ctOf_cons s70_ok (ctOf_cons s75_ok (ctOf_cons s94_ok ctOf_nil))
 refine call_of (E := E) (sh := sh) (ct := ctOf [(70, s70), (75, s75), (94, s94)]) (na := 2) (m := 0) hct rfl rfl rfl rfl rfl rfl ?_
 show p41.fd (p41.ft [VT a, VT b] []) = some (.out _ _)
 rw [show p41.ft [VT a, VT b] [] = _ from t41 _ _ _ _ _ _]
 have la : (entT a).length < 4294967290 := by have := root_len a; omega
 have lb : (entT b).length < 4294967290 := by have := root_len b; omega
 have pa := entP_len a ha
 have pb := entP_len b hb
 simp only [toRows_rows, Nd.eta, isRows_rows, isL_enc, decL_enc, fd_br, fd_chk', fd_leaf, if_true, Bool.not_eq_true', la, lb, decide_true, refE_ent2, isEs_ents, toEs_ents, ents_length, pa, pb, rneB_P, rowsLen_P, refC_chg]
 unfold chgP
 by_cases o1 : okR a = false
 · rw [if_pos o1, if_neg (by simp [o1])]; rfl
 rw [if_neg o1]
 by_cases o2 : okR b = false
 · rw [if_pos o2, if_neg (by simp [o2])]; rfl
 rw [if_neg o2]
 rw [Bool.not_eq_false] at o1 o2
 rw [if_pos ⟨o1, o2⟩]
theorem s41_ok : CSpecOk E 41 s41 := by
 intro a h cs vals h' he hc
 unfold s41 at he
 split at he <;> simp only [Option.some.injEq, Prod.mk.injEq, reduceCtorEq] at he
 rename_i s xs ys s2 xs2 ys2
 obtain ⟨rfl, rfl, rfl⟩ := he
 simp only [allT, Bool.and_true, Bool.and_eq_true, decide_eq_true_eq] at hc
 obtain ⟨h1, h2, h3, h4, h5, h6⟩ := hc
 obtain ⟨rs, rfl⟩ := rows_ex h1
 obtain ⟨ks, rfl⟩ := isL_ex h2
 obtain ⟨r2, rfl⟩ := rows_ex h3
 obtain ⟨k2, rfl⟩ := isL_ex h4
 simp only [toRows_rows, decL_enc] at *
 exact f41 (.node s rs ks) (.node s2 r2 k2) h5 h6
theorem f39 (l : List Cg) (nl : OBo) (tt : Bool) (nl2 : OBo) (t2 : Bool) (hl : l.length < 4294967296) (hr : cgLen l = true) : call E 39 [.c (.sl 3 nl tt (cgs l)), .c (.sl 3 nl2 t2 (cgs l))] [] = some ([V.b true], []) := by
 have hct : (ctOf [(26, s26)]).ok E := ctOf_cons s26_ok ctOf_nil
 refine call_of (E := E) (sh := sh) (ct := ctOf [(26, s26)]) (na := 2) (m := 0) hct rfl rfl rfl rfl rfl rfl ?_
 rw [t39, fd_br, bne_self_eq_false, if_neg (by simp)]
 refine fd_post hct (by kernel_rfl) rfl (list_post (p := p39) hct (b := b39_0) l.length (fun k (_ : Unit) => s39_0 nl tt (cgs l) nl2 t2 (cgs l) k) (fun _ _ => True) _ ?_ ?_ 0 (Nat.zero_le _) () trivial)
 · intro k _ hk _
   have := List.all_eq_true.1 hr _ (List.getElem_mem hk)
   simp only [Bool.and_eq_true, decide_eq_true_eq] at this
   refine .inl ⟨(), trivial, ?_⟩
   rw [t39_0]
   simp only [ld_br, ld_chk', ld_leaf, fd_br, fd_chk', fd_leaf, decide_true, decide_eq_true_eq, if_true, Int.toNat_natCast, Int.natCast_nonneg, Int.ofNat_lt, Int.ofNat_le, Bool.false_eq_true, if_false, bne_iff_ne, beq_iff_eq, ne_eq, not_true_eq_false, not_false_eq_true, Bool.not_eq_true', decide_eq_false_iff_not, reduceCtorEq, rows_length, er_ok, er_ok', dr_er, isRows_rows, toRows_rows, rows_take, rows_drop, rows_append, ints_length, isInts_ints, toInts_ints, ei_i, ei_ok, mk_headD, ints_take, ints_drop, ints_append, ints_snoc, ints_snoc', List.take_length, Nat.zero_add, Nat.le_refl, er_a, er_b, er_k, er_n, er_s, er_v, cgs_length, hk, cgs_getD hk, Cg.ok, Cg.e_p, Cg.e_a, Cg.e_b, this.1, this.2, beq_self_eq_true, Bool.not_true, wrap_succ (show k < 9223372036854775807 by omega)]
 · intro _ _
   refine ⟨x39_0x1 nl tt (cgs l) nl2 t2 (cgs l) l.length, by simp, by rw [k39_0x1, fd_leaf], ?_⟩
   rw [t39_0]; simp only [ld_br, ld_chk', ld_leaf, fd_br, fd_chk', fd_leaf, decide_true, decide_eq_true_eq, if_true, Int.toNat_natCast, Int.natCast_nonneg, Int.ofNat_lt, Int.ofNat_le, Bool.false_eq_true, if_false, bne_iff_ne, beq_iff_eq, ne_eq, not_true_eq_false, not_false_eq_true, Bool.not_eq_true', decide_eq_false_iff_not, reduceCtorEq, rows_length, er_ok, er_ok', dr_er, isRows_rows, toRows_rows, rows_take, rows_drop, rows_append, ints_length, isInts_ints, toInts_ints, ei_i, ei_ok, mk_headD, ints_take, ints_drop, ints_append, ints_snoc, ints_snoc', List.take_length, Nat.zero_add, Nat.le_refl, er_a, er_b, er_k, er_n, er_s, er_v, cgs_length, Int.lt_irrefl]
theorem s39_ok : CSpecOk E 39 s39 := by
 intro a h cs vals h' he hc
 unfold s39 at he
 split at he <;> simp only [Option.some.injEq, Prod.mk.injEq, reduceCtorEq] at he
 rename_i nl tt xs nl2 t2 ys
 obtain ⟨rfl, rfl, rfl⟩ := he
 simp only [allT, Bool.and_true, Bool.and_eq_true, decide_eq_true_eq] at hc
 obtain ⟨h1, h2, h3, h4⟩ := hc
 obtain ⟨l, rfl⟩ := cgs_ex h1
 have := eqbLL_eq h2
 subst this
 rw [cgs_length] at h3
 rw [toCgs_cgs] at h4
 exact f39 l nl tt nl2 t2 h3 h4
end Go.Proofs.YtgaabjmbnomimaaGreatDoor
namespace Go.Proofs.YtgaabjmbnomimaaGreatDoor
open Go Go.Ev
theorem insE_le (E : List Ent) (p : Bys) (r : List Row) : (insE E p r).length <= E.length + 1 := by
 induction E with
 | nil => rw [insE]; split <;> simp
 | cons e l ih =>
   rw [insE]
   split
   · simp; omega
   · split
     · split <;> simp <;> omega
     · split <;> simp
theorem putP_size (t : Nd) (p : Bys) (rs : List Row) : (entL (putP t p rs).1.kids).length <= (entL t.kids).length + 1 := by
 unfold putP
 split
 · rename_i h
   obtain ⟨g1, g2⟩ := isPath_iff.1 h.2.1
   have := (putR_ok h.1 g1 g2 h.2.2).2
   show (entR (putR t p rs)).length <= _
   rw [this]
   exact insE_le _ _ _
 · show (entL []).length <= _; rw [entL]; simp
theorem bl_nilp {p : List UInt8} (h : isPath p = true) : Op.bytesLess [] p = true := by
 have := (isPath_iff.1 h).1
 cases p with
 | nil => exact absurd rfl this
 | cons b q => rfl
theorem s25q_ok : CSpecOk E 25 s25q := by
 intro a h cs vals h' he hc
 unfold s25q at he
 split at he <;> simp only [Option.some.injEq, Prod.mk.injEq, reduceCtorEq] at he
 rename_i s rn rt xs kn kt ys p qn qt zs
 obtain ⟨rfl, rfl, rfl⟩ := he
 simp only [allT, Bool.and_true, Bool.and_eq_true, decide_eq_true_eq] at hc
 obtain ⟨rfl, rfl, h1, h2, h3, h4⟩ := hc
 obtain ⟨rs, rfl⟩ := rows_ex h1
 obtain ⟨ks, rfl⟩ := isL_ex h2
 obtain ⟨qs, rfl⟩ := rows_ex h3
 simp only [toRows_rows, decL_enc] at *
 exact f25 s rn rt rs kn kt ks p qs h4
def lastC (l : List Cg) : Nat -> List UInt8
 | 0 => []
 | k + 1 => match l[k]? with
   | some c => c.p
   | none => []
theorem hct38 : (ctOf [(25, s25q), (26, s26), (28, s28), (70, s70), (71, s71), (72, s72)]).ok E :=
 ctOf_cons s25q_ok (ctOf_cons s26_ok (ctOf_cons s28_ok (ctOf_cons s70_ok (ctOf_cons s71_ok (ctOf_cons s72_ok ctOf_nil)))))
abbrev st38_0 (t : Nd) (nl : OBo) (tt : Bool) (l : List Cg) (k : Nat) : Fr × Hp := s38_0 t.lab (rows t.rows) (encL t.kids) nl tt (cgs l) k none false none false [] (some true) true [] (some true) true []
abbrev st38_1 (t : Nd) (nl : OBo) (tt : Bool) (l : List Cg) (k : Nat) : Fr × Hp := s38_1 t.lab (rows t.rows) (encL t.kids) nl tt (cgs l) none false none false [] (some true) true [] (some true) true [] k
abbrev st38_2 (t : Nd) (nl : OBo) (tt : Bool) (l : List Cg) (k : Nat) : Fr × Hp := s38_2 t.lab (rows t.rows) (encL t.kids) nl tt (cgs l) none false none false [] (some true) true [] (some true) true [] k
section
variable (t : Nd) (nl : OBo) (tt : Bool) (l : List Cg) (hl : l.length <= 1000)
include hl
theorem loop38_2 (hs : (entL t.kids).length < 100000000) (hn : ∀ c ∈ l, c.n2 = none /\ c.t2 = false) : p38.fd (Tr.ls 2 (st38_2 t nl tt l 0)) = some (.out [VT (repF t l), V.i 0] []) := by
 refine fd_post hct38 (by kernel_rfl) rfl (list_post (p := p38) hct38 (b := b38_2) l.length (fun k (u : Nd) => st38_2 u nl tt l k) (fun k u => repF u (l.drop k) = repF t l /\ (entL u.kids).length <= 100000000 + k) _ ?_ ?_ 0 (Nat.zero_le _) t ⟨rfl, by omega⟩)
 · rintro k u hk ⟨hi, hz⟩
   left
   rw [List.drop_eq_getElem_cons hk] at hi
   have h1 := hn _ (List.getElem_mem hk)
   have hz2 := putP_size u l[k].p l[k].b
   refine ⟨(putP u l[k].p l[k].b).1, ⟨hi, by omega⟩, ?_⟩
   rw [t38_2]
   simp only [nd_ok, nd_lab, nd_rows, nd_kids, encL_length, isL_enc, decL_enc, wrap_hd, hd_pos, ld_br, ld_chk', ld_leaf, fd_br, fd_chk', fd_leaf, decide_true, decide_eq_true_eq, if_true, Int.toNat_natCast, Int.natCast_nonneg, Int.ofNat_lt, Int.ofNat_le, Bool.false_eq_true, if_false, bne_iff_ne, beq_iff_eq, ne_eq, not_true_eq_false, not_false_eq_true, Bool.not_eq_true', decide_eq_false_iff_not, reduceCtorEq, rows_length, er_ok, er_ok', dr_er, isRows_rows, toRows_rows, rows_take, rows_drop, rows_append, ints_length, isInts_ints, toInts_ints, ei_i, ei_ok, mk_headD, ints_take, ints_drop, ints_append, ints_snoc, ints_snoc', List.take_length, Nat.zero_add, Nat.le_refl, er_a, er_b, er_k, er_n, er_s, er_v, Nd.eta, cgs_length, hk, cgs_getD hk, Cg.ok, Cg.e_p, Cg.e_b, Cg.e_n2, Cg.e_t2, h1.1, h1.2, show (entL u.kids).length < 1000000000 by omega, wrap_succ (show k < 9223372036854775807 by omega)]
 · rintro u ⟨hi, _⟩
   rw [List.drop_length] at hi
   have hi : u = repF t l := hi
   subst hi
   refine ⟨x38_2x0 (repF t l).lab (rows (repF t l).rows) (encL (repF t l).kids) nl tt (cgs l) none false none false [] (some true) true [] (some true) true [] l.length, by simp, by rw [k38_2x0, fd_leaf], ?_⟩
   rw [t38_2]
   simp only [nd_ok, nd_lab, nd_rows, nd_kids, encL_length, isL_enc, decL_enc, wrap_hd, hd_pos, ld_br, ld_chk', ld_leaf, fd_br, fd_chk', fd_leaf, decide_true, decide_eq_true_eq, if_true, Int.toNat_natCast, Int.natCast_nonneg, Int.ofNat_lt, Int.ofNat_le, Bool.false_eq_true, if_false, bne_iff_ne, beq_iff_eq, ne_eq, not_true_eq_false, not_false_eq_true, Bool.not_eq_true', decide_eq_false_iff_not, reduceCtorEq, rows_length, er_ok, er_ok', dr_er, isRows_rows, toRows_rows, rows_take, rows_drop, rows_append, ints_length, isInts_ints, toInts_ints, ei_i, ei_ok, mk_headD, ints_take, ints_drop, ints_append, ints_snoc, ints_snoc', List.take_length, Nat.zero_add, Nat.le_refl, er_a, er_b, er_k, er_n, er_s, er_v, cgs_length, Int.lt_irrefl]
theorem loop38_1 (hs : (entL t.kids).length < 100000000) (hn : ∀ c ∈ l, c.n2 = none /\ c.t2 = false) :
   p38.fd (Tr.ls 1 (st38_1 t nl tt l 0)) = some (if l.any (otherB t) = true then .out [VT nd0, V.i 19] [] else .out [VT (repF t l), V.i 0] []) := by
 have hT : (entT t).length < 4294967290 := by have := root_len t; omega
 refine fd_post hct38 (by kernel_rfl) (by split <;> rfl) (list_post (p := p38) hct38 (b := b38_1) l.length (fun k (_ : Unit) => st38_1 t nl tt l k) (fun k _ => (l.drop k).any (otherB t) = l.any (otherB t)) _ ?_ ?_ 0 (Nat.zero_le _) () rfl)
 · rintro k _ hk hi
   rw [List.drop_eq_getElem_cons hk, List.any_cons] at hi
   have hg : (getR t l[k].p).length <= 9223372036854775807 := by rw [getR_P]; exact right_len63 (look_right (gd_entP _) _)
   have go : p38.ld b38_1 (p38.lts b38_1 (st38_1 t nl tt l k)) = if otherB t l[k] = true then some (R.x (x38_1x0 t.lab (rows t.rows) (encL t.kids) none false none false)) else some (R.s (st38_1 t nl tt l (k + 1))) := by
     rw [t38_1]
     unfold otherB
     simp only [nd_ok, nd_lab, nd_rows, nd_kids, encL_length, isL_enc, decL_enc, wrap_hd, hd_pos, ld_br, ld_chk', ld_leaf, fd_br, fd_chk', fd_leaf, decide_true, decide_eq_true_eq, if_true, Int.toNat_natCast, Int.natCast_nonneg, Int.ofNat_lt, Int.ofNat_le, Bool.false_eq_true, if_false, bne_iff_ne, beq_iff_eq, ne_eq, not_true_eq_false, not_false_eq_true, Bool.not_eq_true', decide_eq_false_iff_not, reduceCtorEq, rows_length, er_ok, er_ok', dr_er, isRows_rows, toRows_rows, rows_take, rows_drop, rows_append, ints_length, isInts_ints, toInts_ints, ei_i, ei_ok, mk_headD, ints_take, ints_drop, ints_append, ints_snoc, ints_snoc', List.take_length, Nat.zero_add, Nat.le_refl, er_a, er_b, er_k, er_n, er_s, er_v, Nd.eta, cgs_length, hk, cgs_getD hk, Cg.ok, Cg.e_p, Cg.e_a, hg, hT, wrap_succ (show k < 9223372036854775807 by omega)]
   cases c : otherB t l[k] with
   | false =>
     rw [c] at hi go
     exact .inl ⟨(), by simpa using hi, by rw [go]; rfl⟩
   | true =>
     rw [c] at hi go
     refine .inr ⟨_, ?_, ?_, by rw [go, if_pos rfl]⟩
     · simp
     · rw [k38_1x0, fd_leaf, <- hi]; rfl
 · rintro _ hi
   rw [List.drop_length, List.any_nil] at hi
   refine ⟨x38_1x1 t.lab (rows t.rows) (encL t.kids) nl tt (cgs l) none false none false [] (some true) true [] (some true) true [] l.length, by simp, ?_, ?_⟩
   · rw [k38_1x1, if_neg (by rw [<- hi]; simp)]
     exact loop38_2 t nl tt l hl hs hn
   · rw [t38_1]
     simp only [nd_ok, nd_lab, nd_rows, nd_kids, encL_length, isL_enc, decL_enc, wrap_hd, hd_pos, ld_br, ld_chk', ld_leaf, fd_br, fd_chk', fd_leaf, decide_true, decide_eq_true_eq, if_true, Int.toNat_natCast, Int.natCast_nonneg, Int.ofNat_lt, Int.ofNat_le, Bool.false_eq_true, if_false, bne_iff_ne, beq_iff_eq, ne_eq, not_true_eq_false, not_false_eq_true, Bool.not_eq_true', decide_eq_false_iff_not, reduceCtorEq, rows_length, er_ok, er_ok', dr_er, isRows_rows, toRows_rows, rows_take, rows_drop, rows_append, ints_length, isInts_ints, toInts_ints, ei_i, ei_ok, mk_headD, ints_take, ints_drop, ints_append, ints_snoc, ints_snoc', List.take_length, Nat.zero_add, Nat.le_refl, er_a, er_b, er_k, er_n, er_s, er_v, cgs_length, Int.lt_irrefl]
theorem loop38_0 (ho : okR t = true) (hs : (entL t.kids).length < 100000000) (hn : ∀ c ∈ l, c.n2 = none /\ c.t2 = false) :
   p38.fd (Tr.ls 0 (st38_0 t nl tt l 0)) = some (.out [VT (repP t l).1, V.i (repP t l).2] []) := by
 refine fd_post hct38 (by kernel_rfl) rfl (list_post (p := p38) hct38 (b := b38_0) l.length (fun k (_ : Unit) => st38_0 t nl tt l k) (fun k _ => mayF (lastC l k) (l.drop k) = mayF [] l) _ ?_ ?_ 0 (Nat.zero_le _) () rfl)
 · rintro k _ hk hi
   rw [mayF_drop hk] at hi
   have hlast : lastC l (k + 1) = l[k].p := by simp [lastC, hk]
   have go : p38.ld b38_0 (p38.lts b38_0 (st38_0 t nl tt l k)) = if (isPath l[k].p && Op.bytesLess (lastC l k) l[k].p && right l[k].a && right l[k].b && !decide (l[k].a = l[k].b)) = true then some (R.s (st38_0 t nl tt l (k + 1))) else some (R.x (x38_0x0 t.lab (rows t.rows) (encL t.kids) none false none false)) := by
     rw [t38_0]
     unfold c38_0_1 c38_0_2
     cases h1 : isPath l[k].p with
     | false => simp only [ld_br, ld_chk', ld_leaf, fd_br, fd_chk', fd_leaf, decide_true, decide_eq_true_eq, if_true, Int.toNat_natCast, Int.natCast_nonneg, Int.ofNat_lt, Int.ofNat_le, Bool.false_eq_true, if_false, bne_iff_ne, beq_iff_eq, ne_eq, not_true_eq_false, not_false_eq_true, Bool.not_eq_true', decide_eq_false_iff_not, reduceCtorEq, rows_length, er_ok, er_ok', dr_er, isRows_rows, toRows_rows, rows_take, rows_drop, rows_append, ints_length, isInts_ints, toInts_ints, ei_i, ei_ok, mk_headD, ints_take, ints_drop, ints_append, ints_snoc, ints_snoc', List.take_length, Nat.zero_add, Nat.le_refl, er_a, er_b, er_k, er_n, er_s, er_v, cgs_length, hk, cgs_getD hk, Cg.ok, Cg.e_p, h1]; simp
     | true =>
       have hl2 : (Op.bytesLess (lastC l k) l[k].p = false -> 0 < k) := fun h => by
         cases k with
         | zero => rw [show lastC l 0 = [] from rfl, bl_nilp h1] at h; cases h
         | succ k => omega
       by_cases hk0 : 0 < k
       · have w1 : IntKind.wrap .i64 ((k : Int) - 1) = ((k - 1 : Nat) : Int) := wrap_pred hk0 (by omega)
         have hk1 : k - 1 < l.length := by omega
         have hlk : lastC l k = l[k - 1].p := by
           obtain ⟨j, rfl⟩ : ∃ j, k = j + 1 := ⟨k - 1, by omega⟩
           have hj : j < l.length := by omega
           simp [lastC, hj]
         simp only [ld_br, ld_chk', ld_leaf, fd_br, fd_chk', fd_leaf, decide_true, decide_eq_true_eq, if_true, Int.toNat_natCast, Int.natCast_nonneg, Int.ofNat_lt, Int.ofNat_le, Bool.false_eq_true, if_false, bne_iff_ne, beq_iff_eq, ne_eq, not_true_eq_false, not_false_eq_true, Bool.not_eq_true', decide_eq_false_iff_not, reduceCtorEq, rows_length, er_ok, er_ok', dr_er, isRows_rows, toRows_rows, rows_take, rows_drop, rows_append, ints_length, isInts_ints, toInts_ints, ei_i, ei_ok, mk_headD, ints_take, ints_drop, ints_append, ints_snoc, ints_snoc', List.take_length, Nat.zero_add, Nat.le_refl, er_a, er_b, er_k, er_n, er_s, er_v, cgs_length, hk, hk1, hk0, w1, cgs_getD hk, cgs_getD hk1, Cg.ok, Cg.e_p, Cg.e_a, Cg.e_b, h1, hlk, Int.natCast_pos, wrap_succ (show k < 9223372036854775807 by omega)]
         cases h2 : Op.bytesLess l[k - 1].p l[k].p with
         | false => simp
         | true =>
           cases h3 : right l[k].a with
           | false => simp
           | true =>
             have := right_len63 h3
             cases h4 : right l[k].b with
             | false => simp
             | true =>
               by_cases h5 : l[k].a = l[k].b
               · rw [h5] at this; simp [h5, this]
               · simp [h5, this]
       · have h2 : Op.bytesLess (lastC l k) l[k].p = true := by
           cases h : Op.bytesLess (lastC l k) l[k].p with
           | true => rfl
           | false => exact absurd (hl2 h) hk0
         simp only [ld_br, ld_chk', ld_leaf, fd_br, fd_chk', fd_leaf, decide_true, decide_eq_true_eq, if_true, Int.toNat_natCast, Int.natCast_nonneg, Int.ofNat_lt, Int.ofNat_le, Bool.false_eq_true, if_false, bne_iff_ne, beq_iff_eq, ne_eq, not_true_eq_false, not_false_eq_true, Bool.not_eq_true', decide_eq_false_iff_not, reduceCtorEq, rows_length, er_ok, er_ok', dr_er, isRows_rows, toRows_rows, rows_take, rows_drop, rows_append, ints_length, isInts_ints, toInts_ints, ei_i, ei_ok, mk_headD, ints_take, ints_drop, ints_append, ints_snoc, ints_snoc', List.take_length, Nat.zero_add, Nat.le_refl, er_a, er_b, er_k, er_n, er_s, er_v, cgs_length, hk, hk0, cgs_getD hk, Cg.ok, Cg.e_p, Cg.e_a, Cg.e_b, h1, h2, Int.natCast_pos, wrap_succ (show k < 9223372036854775807 by omega)]
         cases h3 : right l[k].a with
         | false => simp
         | true =>
           have := right_len63 h3
           cases h4 : right l[k].b with
           | false => simp
           | true =>
             by_cases h5 : l[k].a = l[k].b
             · rw [h5] at this; simp [h5, this]
             · simp [h5, this]
   cases hc : (isPath l[k].p && Op.bytesLess (lastC l k) l[k].p && right l[k].a && right l[k].b && !decide (l[k].a = l[k].b)) with
   | true =>
     rw [hc, if_pos rfl] at go
     rw [hc, Bool.true_and] at hi
     exact .inl ⟨(), by rw [hlast]; exact hi, go⟩
   | false =>
     rw [hc, if_neg (by simp)] at go
     rw [hc, Bool.false_and] at hi
     rw [go]
     refine .inr ⟨_, ?_, ?_, rfl⟩
     · simp
     · rw [k38_0x0, fd_leaf, repP, if_neg (by rw [<- hi]; simp)]; rfl
 · rintro _ hi
   rw [List.drop_length, mayF] at hi
   refine ⟨x38_0x1 t.lab (rows t.rows) (encL t.kids) nl tt (cgs l) l.length none false none false [] (some true) true [] (some true) true [], by simp, ?_, ?_⟩
   · rw [k38_0x1, repP, if_pos ⟨ho, hi.symm⟩]
     refine (loop38_1 t nl tt l hl hs hn).trans ?_
     split <;> rfl
   · rw [t38_0]
     simp only [ld_br, ld_chk', ld_leaf, fd_br, fd_chk', fd_leaf, decide_true, decide_eq_true_eq, if_true, Int.toNat_natCast, Int.natCast_nonneg, Int.ofNat_lt, Int.ofNat_le, Bool.false_eq_true, if_false, bne_iff_ne, beq_iff_eq, ne_eq, not_true_eq_false, not_false_eq_true, Bool.not_eq_true', decide_eq_false_iff_not, reduceCtorEq, rows_length, er_ok, er_ok', dr_er, isRows_rows, toRows_rows, rows_take, rows_drop, rows_append, ints_length, isInts_ints, toInts_ints, ei_i, ei_ok, mk_headD, ints_take, ints_drop, ints_append, ints_snoc, ints_snoc', List.take_length, Nat.zero_add, Nat.le_refl, er_a, er_b, er_k, er_n, er_s, er_v, cgs_length, Int.lt_irrefl]
end
theorem f38 (t : Nd) (nl : OBo) (tt : Bool) (l : List Cg) (hl : l.length <= 1000) (hs : (entL t.kids).length < 100000000) (hn : ∀ c ∈ l, c.n2 = none /\ c.t2 = false) :
   call E 38 [VT t, .c (.sl 3 nl tt (cgs l))] [] = some ([VT (repP t l).1, V.i (repP t l).2], []) := by
 refine call_of (E := E) (sh := sh) (ct := ctOf [(25, s25q), (26, s26), (28, s28), (70, s70), (71, s71), (72, s72)]) (na := 2) (m := 0) hct38 rfl rfl rfl rfl rfl rfl ?_
 show p38.fd (p38.ft [VT t, .c (.sl 3 nl tt (cgs l))] []) = some (.out _ _)
 rw [show p38.ft [VT t, .c (.sl 3 nl tt (cgs l))] [] = _ from t38 _ _ _ _ _ _]
 simp only [toRows_rows, Nd.eta, isRows_rows, isL_enc, decL_enc, fd_br, fd_chk', fd_leaf, if_true, Bool.not_eq_true']
 by_cases o1 : okR t = false
 · rw [if_pos o1, repP, if_neg (by simp [o1])]; rfl
 rw [if_neg o1]
 rw [Bool.not_eq_false] at o1
 exact loop38_0 t nl tt l hl o1 hs hn
theorem s38_ok : CSpecOk E 38 s38 := by
 intro a h cs vals h' he hc
 unfold s38 at he
 split at he <;> simp only [Option.some.injEq, Prod.mk.injEq, reduceCtorEq] at he
 rename_i s xs ys nl tt zs
 obtain ⟨rfl, rfl, rfl⟩ := he
 simp only [allT, Bool.and_true, Bool.and_eq_true, decide_eq_true_eq] at hc
 obtain ⟨h1, h2, h3, h4, h5, h6⟩ := hc
 obtain ⟨rs, rfl⟩ := rows_ex h1
 obtain ⟨ks, rfl⟩ := isL_ex h2
 obtain ⟨l, rfl⟩ := cgs_ex h3
 rw [cgs_length] at h5
 simp only [toRows_rows, decL_enc, toCgs_cgs] at *
 refine f38 (.node s rs ks) nl tt l h5 h6 fun c hc => ?_
 have := List.all_eq_true.1 h4 c hc
 simpa using this
theorem s37_ok : CSpecOk E 37 s37 := by
 intro a h cs vals h' he hc
 unfold s37 at he
 split at he <;> simp only [Option.some.injEq, Prod.mk.injEq, reduceCtorEq] at he
 rename_i s xs ys nl tt zs
 obtain ⟨rfl, rfl, rfl⟩ := he
 simp only [allT, Bool.and_true, Bool.and_eq_true, decide_eq_true_eq] at hc
 obtain ⟨h1, h2, h3, h4, h5⟩ := hc
 obtain ⟨rs, rfl⟩ := rows_ex h1
 obtain ⟨ks, rfl⟩ := isL_ex h2
 obtain ⟨l, rfl⟩ := cgs_ex h3
 rw [cgs_length] at h4
 simp only [toRows_rows, decL_enc, toCgs_cgs] at *
 refine f37 (.node s rs ks) nl tt l h4 fun c hc => ?_
 have := List.all_eq_true.1 h5 c hc
 simp only [decide_eq_true_eq] at this
 exact this.imp id fun h => by rw [h]; rfl
end Go.Proofs.YtgaabjmbnomimaaGreatDoor
namespace Go.Proofs.YtgaabjmbnomimaaGreatDoor
open Go Go.Ev
theorem putP_lens (t : Nd) (p : Bys) (rs : List Row) : lensT (putP t p rs).1 = true := by
 unfold putP
 split
 · rename_i h
   obtain ⟨g1, g2⟩ := isPath_iff.1 h.2.1
   exact okR_lens (putR_ok h.1 g1 g2 h.2.2).1
 · rfl
theorem repF_lens : ∀ (l : List Cg) (t : Nd), lensT t = true -> lensT (repF t l) = true
 | [], _, h => h
 | c :: l, t, _ => repF_lens l _ (putP_lens t c.p c.b)
theorem repP_lens (t : Nd) (l : List Cg) (h : lensT t = true) : lensT (repP t l).1 = true := by
 unfold repP
 split
 · split
   · rfl
   · exact repF_lens l t h
 · rfl
def cgA (c : Cg) : Prop := c.n1 = none /\ c.t1 = false /\ c.n2 = none /\ c.t2 = false
theorem hct5 : (ctOf [(14, s14n), (34, s34), (35, s35), (36, s36), (37, s37), (38, s38), (39, s39), (40, s40), (41, s41)]).ok E :=
 ctOf_cons s17n_ok (ctOf_cons s34_ok (ctOf_cons s35_ok (ctOf_cons s36_ok (ctOf_cons s37_ok (ctOf_cons s38_ok (ctOf_cons s39_ok (ctOf_cons s40_ok (ctOf_cons s41_ok ctOf_nil))))))))
theorem cgLen_chg (a b : Nd) : cgLen ((chgP a b).map cgS) = true := by
 rw [cgLen, List.all_eq_true]
 intro c hc
 obtain ⟨s, hs, rfl⟩ := List.mem_map.1 hc
 unfold chgP at hs
 split at hs
 · have h := chg_mem hs
   simp only [Bool.and_eq_true, decide_eq_true_eq]
   refine ⟨?_, ?_⟩
   · show s.a.length <= _
     rw [h.1, getR_P]; exact right_len63 (look_right (gd_entP _) _)
   · show s.b.length <= _
     rw [h.2.1, getR_P]; exact right_len63 (look_right (gd_entP _) _)
 · simp at hs
theorem f5 (a b : Nd) (l : List Cg) (ha : lensT a = true) (hb : lensT b = true) (hn : ∀ c ∈ l, cgA c) : call E 5 [VT a, VT b, .c (.sl 3 none false (cgs l))] [] = some ([V.b true], []) := by
 refine call_of (E := E) (sh := sh) (ct := ctOf [(14, s14n), (34, s34), (35, s35), (36, s36), (37, s37), (38, s38), (39, s39), (40, s40), (41, s41)]) (na := 3) (m := 0) hct5 rfl rfl rfl rfl rfl rfl ?_
 show p5.fd (p5.ft [VT a, VT b, .c (.sl 3 none false (cgs l))] []) = some (.out _ _)
 rw [show p5.ft [VT a, VT b, .c (.sl 3 none false (cgs l))] [] = _ from t5 _ _ _ _ _ _ _]
 simp only [toRows_rows, Nd.eta, isRows_rows, isL_enc, decL_enc, ha, hb, fd_br, fd_chk', fd_leaf, if_true, Bool.not_eq_true', cgs_length, decide_eq_true_eq]
 by_cases s1 : smallD a = false
 · rw [if_pos s1]
 rw [if_neg s1]
 by_cases s2 : smallD b = false
 · rw [if_pos s2]
 rw [if_neg s2]
 by_cases s3 : (60 : Int) < l.length
 · rw [if_pos s3]
 rw [if_neg s3]
 rw [Bool.not_eq_false] at s1 s2
 have sz : ∀ t, smallD t = true -> (entL t.kids).length < 100000000 := fun t h => by
   simp only [smallD, decide_eq_true_eq] at h
   have he := leftT_ent t 200 60 (by omega) h
   have hek : (entL t.kids).length <= (entT t).length := by rw [entT_eq]; simp
   omega
 have la := sz a s1
 have lb := sz b s2
 have la9 : (entL a.kids).length < 1000000000 := by omega
 have lb9 : (entL b.kids).length < 1000000000 := by omega
 have hl60 : l.length <= 60 := by omega
 refine fd_post hct5 (by kernel_rfl) rfl (list_post (p := p5) hct5 (b := b5_0) l.length (fun k (_ : Unit) => s5_0 a.lab (rows a.rows) (encL a.kids) b.lab (rows b.rows) (encL b.kids) (cgs l) none false k none false none false none false none false) (fun _ _ => True) _ ?_ ?_ 0 (Nat.zero_le _) () trivial)
 · rintro k _ hk _
   have bad : ∀ (y : Option R), y = some (R.x (x5_0x0 a.lab (rows a.rows) (encL a.kids) b.lab (rows b.rows) (encL b.kids) none false none false none false none false)) -> ∃ x : Ex × Fr × Hp, x.1 ≠ .nrm /\ p5.fd (p5.fkx 0 x) = some (.out [V.b true] []) /\ y = some (R.x x) := fun y hy =>
     ⟨_, by simp, by rw [k5_0x0, fd_leaf], hy⟩
   have go : p5.ld b5_0 (p5.lts b5_0 (s5_0 a.lab (rows a.rows) (encL a.kids) b.lab (rows b.rows) (encL b.kids) (cgs l) none false k none false none false none false none false)) = if (100 : Int) < l[k].p.length \/ shortR l[k].a = false \/ shortR l[k].b = false then some (R.x (x5_0x0 a.lab (rows a.rows) (encL a.kids) b.lab (rows b.rows) (encL b.kids) none false none false none false none false))
       else some (R.s (s5_0 a.lab (rows a.rows) (encL a.kids) b.lab (rows b.rows) (encL b.kids) (cgs l) none false ((k + 1 : Nat) : Int) none false none false none false none false)) := by
     rw [t5_0]
     simp only [ld_br, ld_chk', ld_leaf, fd_br, fd_chk', fd_leaf, decide_true, decide_eq_true_eq, if_true, Int.toNat_natCast, Int.natCast_nonneg, Int.ofNat_lt, Int.ofNat_le, Bool.false_eq_true, if_false, bne_iff_ne, beq_iff_eq, ne_eq, not_true_eq_false, not_false_eq_true, Bool.not_eq_true', decide_eq_false_iff_not, reduceCtorEq, rows_length, er_ok, er_ok', dr_er, isRows_rows, toRows_rows, rows_take, rows_drop, rows_append, ints_length, isInts_ints, toInts_ints, ei_i, ei_ok, mk_headD, ints_take, ints_drop, ints_append, ints_snoc, ints_snoc', List.take_length, Nat.zero_add, Nat.le_refl, er_a, er_b, er_k, er_n, er_s, er_v, cgs_length, hk, cgs_getD hk, Cg.ok, Cg.e_p, Cg.e_a, Cg.e_b, wrap_succ (show k < 9223372036854775807 by omega)]
     by_cases c1 : (100 : Int) < l[k].p.length <;> cases c2 : shortR l[k].a <;> cases c3 : shortR l[k].b <;> simp [c1]
   by_cases c : (100 : Int) < l[k].p.length \/ shortR l[k].a = false \/ shortR l[k].b = false
   · rw [if_pos c] at go
     exact .inr (bad _ go)
   · rw [if_neg c] at go
     exact .inl ⟨(), trivial, go⟩
 · rintro _ _
   refine ⟨x5_0x1 a.lab (rows a.rows) (encL a.kids) b.lab (rows b.rows) (encL b.kids) (cgs l) none false l.length none false none false none false none false, by simp, ?_, ?_⟩
   · rw [show p5.fkx 0 (x5_0x1 a.lab (rows a.rows) (encL a.kids) b.lab (rows b.rows) (encL b.kids) (cgs l) none false l.length none false none false none false none false) = _ from t5e _ _ _ _ _ _ _ _]
     have hX := chgP_len la9 lb9
     have h1 : cgOk l = true := by
       rw [cgOk, List.all_eq_true]
       intro c hc
       have := (hn c hc).2.2.1
       exact decide_eq_true (.inl (by rw [this]; simp))
     have h2 : cgNN l = true := by
       rw [cgNN, List.all_eq_true]
       intro c hc
       have := hn c hc
       simp [this.2.2.1, this.2.2.2]
     have h3 : eqbLL (cgs ((chgP a b).map cgS)) (cgs ((chgP a b).map cgS)) = true := eqbLL_refl _
     simp only [nd_ok, nd_lab, nd_rows, nd_kids, encL_length, isL_enc, decL_enc, wrap_hd, hd_pos, ld_br, ld_chk', ld_leaf, fd_br, fd_chk', fd_leaf, decide_true, decide_eq_true_eq, if_true, Int.toNat_natCast, Int.natCast_nonneg, Int.ofNat_lt, Int.ofNat_le, Bool.false_eq_true, if_false, bne_iff_ne, beq_iff_eq, ne_eq, not_true_eq_false, not_false_eq_true, Bool.not_eq_true', decide_eq_false_iff_not, reduceCtorEq, rows_length, er_ok, er_ok', dr_er, isRows_rows, toRows_rows, rows_take, rows_drop, rows_append, ints_length, isInts_ints, toInts_ints, ei_i, ei_ok, mk_headD, ints_take, ints_drop, ints_append, ints_snoc, ints_snoc', List.take_length, Nat.zero_add, Nat.le_refl, er_a, er_b, er_k, er_n, er_s, er_v, Nd.eta, isCgs_cgs, toCgs_cgs, cgs_length, h1, h2, h3, la, lb, la9, lb9, chgs_cgs, cgLen_chg, List.length_map, show l.length <= 9223372036854775807 by omega, show l.length <= 1000 by omega, hX, repP_lens a l ha, sameT_refl, beq_self_eq_true]
   · rw [t5_0]
     simp only [ld_br, ld_chk', ld_leaf, fd_br, fd_chk', fd_leaf, decide_true, decide_eq_true_eq, if_true, Int.toNat_natCast, Int.natCast_nonneg, Int.ofNat_lt, Int.ofNat_le, Bool.false_eq_true, if_false, bne_iff_ne, beq_iff_eq, ne_eq, not_true_eq_false, not_false_eq_true, Bool.not_eq_true', decide_eq_false_iff_not, reduceCtorEq, rows_length, er_ok, er_ok', dr_er, isRows_rows, toRows_rows, rows_take, rows_drop, rows_append, ints_length, isInts_ints, toInts_ints, ei_i, ei_ok, mk_headD, ints_take, ints_drop, ints_append, ints_snoc, ints_snoc', List.take_length, Nat.zero_add, Nat.le_refl, er_a, er_b, er_k, er_n, er_s, er_v, cgs_length, Int.lt_irrefl]
end Go.Proofs.YtgaabjmbnomimaaGreatDoor
namespace Go.Proofs.YtgaabjmbnomimaaGreatDoor
open Go Go.Ev
set_option maxRecDepth 100000
theorem rdCg : ∀ (n : Nat) (xs : List C), Rd Tryz.prog n 63 xs -> ∃ l : List Cg, xs = [.sl 3 none false (cgs l)] /\ ∀ c ∈ l, cgA c
 | 0, xs, h => h.elim
 | n + 1, xs, h => by
   rw [Rd, Tryz.underlying63] at h
   obtain ⟨ys, rfl, hq, hy⟩ := h
   have hz : Tryz.prog.cellsOf 65 = 3 := by kernel_rfl
   have : ∃ l : List Cg, ys = cgs l /\ ∀ c ∈ l, cgA c := by
     clear hq
     induction ys with
     | nil => exact ⟨[], rfl, by simp⟩
     | cons y r ih =>
       obtain ⟨l, rfl, hl⟩ := ih (fun z hz => hy z (by simp [hz]))
       have h1 := hy y (by simp)
       cases n with
       | zero => exact h1.elim
       | succ n =>
         rw [Rd, Tryz.underlying65] at h1
         obtain ⟨parts, hl2, rfl, hp⟩ := h1
         match parts, hl2 with
         | [p, q, u], _ =>
           obtain ⟨s, rfl, h2⟩ := rdSl Tryz.underlying9 (hp 0 _ p rfl rfl)
           obtain ⟨rs, rfl, h3⟩ := rdRows (hp 1 _ q rfl rfl)
           obtain ⟨us, rfl, h4⟩ := rdRows (hp 2 _ u rfl rfl)
           refine ⟨⟨s, none, false, rs, none, false, us⟩ :: l, rfl, fun c hc => ?_⟩
           rcases List.mem_cons.1 hc with rfl | hc
           · exact ⟨rfl, rfl, rfl, rfl⟩
           · exact hl c hc
   obtain ⟨l, rfl, hl⟩ := this
   exact ⟨l, by rw [hz], hl⟩
structure Lc where
 l : List Cg
 ok : ∀ c ∈ l, cgA c
theorem ar63 {v : V} {vl : List V} {ts : List TypeId} (h : Args Tryz.prog (63 :: ts) (v :: vl)) : (∃ x : Lc, v = .c (.sl 3 none false (cgs x.l))) /\ Args Tryz.prog ts vl :=
 arC (fun x : Lc => .sl 3 none false (cgs x.l)) (by kernel_rfl) (fun h => by obtain ⟨l, h1, h2⟩ := rdCg _ _ h; exact ⟨⟨l, h2⟩, h1⟩) h
theorem l5 (a b : Lt) (l : Lc) : call E 5 [VT a.t, VT b.t, .c (.sl 3 none false (cgs l.l))] [] = some ([V.b true], []) := f5 a.t b.t l.l a.ok b.ok l.ok
end Go.Proofs.YtgaabjmbnomimaaGreatDoor
