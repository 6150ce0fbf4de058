/-
  Chapter 13 (posting): trees, written by a program: what is found by halves.
-/
import Derived.Test.YtbilmkcdhodenaaDoorPT2
set_option linter.all false
set_option linter.unusedSimpArgs false
set_option linter.unusedVariables false
section
namespace Go.Proofs.YtbilmkcdhodenaaDoor
open Go Go.Ev
set_option pp.deepTerms true
set_option pp.maxSteps 1000000
set_option pp.funBinderTypes true
set_option pp.coercions.types true
noncomputable abbrev p86 : Par := par E sh (ctOf []) 86 2 1
theorem t86 (p : List UInt8) (q : List UInt8) : p86.ft ([V.c (C.str p), V.ptr 0 0 0 0]) ([O.box [V.c (C.str q)]]) = (Tr.leaf (R.out [V.c (C.bool (Op.bytesLess p q))] [O.box [V.c (C.str q)]])) := by kernel_rfl
noncomputable abbrev p87 : Par := par E sh (ctOf []) 87 2 1
theorem t87 (p : List UInt8) (q : List UInt8) : p87.ft ([V.c (C.str p), V.ptr 0 0 0 0]) ([O.box [V.c (C.str q)]]) = (Tr.leaf (R.out [V.c (C.bool (p == q))] [O.box [V.c (C.str q)]])) := by kernel_rfl
noncomputable abbrev p92 : Par := par E sh (ctOf []) 92 2 1
theorem t92 (p : List UInt8) (q : List UInt8) : p92.ft ([V.c (C.str p), V.ptr 0 0 0 0]) ([O.box [V.c (C.str q)]]) = (Tr.leaf (R.out [V.c (C.bool (Op.bytesLess p q))] [O.box [V.c (C.str q)]])) := by kernel_rfl
noncomputable abbrev p137 : Par := par E sh (ctOf []) 137 2 0
theorem t137 (p : List UInt8) (q : List UInt8) : p137.ft ([V.c (C.str p), V.c (C.str q)]) ([]) = (Tr.br (decide ((↑q.length : Int) ≤ (↑p.length : Int))) (Tr.chk true (Tr.chk true (Tr.chk (decide ((↑q.length : Int).toNat ≤ p.length)) (Tr.leaf (R.out [V.c (C.bool (List.take (↑q.length : Int).toNat p == q))] []))))) (Tr.leaf (R.out [V.c (C.bool false)] []))) := by kernel_rfl
def s137 : CSpec := fun a h => match a, h with
  | [.c (.str p), .c (.str q)], [] => some ([], [V.b (begins p q)], [])
  | _, _ => none
noncomputable abbrev p94 : Par := par E sh (ctOf [(137, s137)]) 94 2 0
theorem t94 (p : List UInt8) (q : List UInt8) : p94.ft ([V.c (C.str p), V.c (C.str q)]) ([]) = (Tr.leaf (R.out [V.c (C.bool (begins p q))] [])) := by kernel_rfl
noncomputable abbrev p95 : Par := par E sh (ctOf []) 95 2 0
theorem t95 (p : List UInt8) (q : List UInt8) : p95.ft ([V.c (C.str p), V.c (C.str q)]) ([]) = (Tr.br (decide ((↑q.length : Int) ≤ (↑p.length : Int))) (Tr.chk true (Tr.chk true (Tr.chk (decide ((↑q.length : Int).toNat ≤ p.length)) (Tr.leaf (R.out [V.c (C.bool (List.take (↑q.length : Int).toNat p == q))] []))))) (Tr.leaf (R.out [V.c (C.bool false)] []))) := by kernel_rfl
noncomputable abbrev p93 : Par := par E sh (ctOf [(94, s137)]) 93 2 1
theorem t93 (p : List UInt8) (q : List UInt8) : p93.ft ([V.c (C.str p), V.ptr 0 0 0 0]) ([O.box [V.c (C.str q)]]) = (Tr.leaf (R.out [V.c (C.bool (begins p q))] [O.box [V.c (C.str q)]])) := by kernel_rfl
def s86 : CSpec := fun a h => match a, h with
  | [.c (.str p), .ptr 0 0 0 0], [.box [.c (.str q)]] => some ([], [V.b (Op.bytesLess p q)], [.box [.c (.str q)]])
  | _, _ => none
def s87 : CSpec := fun a h => match a, h with
  | [.c (.str p), .ptr 0 0 0 0], [.box [.c (.str q)]] => some ([], [V.b (decide (p = q))], [.box [.c (.str q)]])
  | _, _ => none
def s93 : CSpec := fun a h => match a, h with
  | [.c (.str p), .ptr 0 0 0 0], [.box [.c (.str q)]] => some ([], [V.b (begins p q)], [.box [.c (.str q)]])
  | _, _ => none
noncomputable abbrev p131 : Par := par E sh (ctOf [(86, s86), (87, s87), (92, s86), (93, s93)]) 131 3 3
theorem t131a (p : List UInt8) (q : List UInt8) : p131.ft ([V.c (C.str p), V.ptr 0 0 0 0, V.ptr 2 0 0 0]) ([O.box [V.fn 86 [V.ptr 1 0 0 0]], O.box [V.c (C.str q)], O.box [V.fn 87 [V.ptr 1 0 0 0]]]) = (Tr.br (Op.bytesLess p q) (Tr.leaf (R.out [V.c (C.bool true)] [O.box [V.fn 86 [V.ptr 1 0 0 0]], O.box [V.c (C.str q)], O.box [V.fn 87 [V.ptr 1 0 0 0]]])) (Tr.leaf (R.out [V.c (C.bool (decide (p = q)))] [O.box [V.fn 86 [V.ptr 1 0 0 0]], O.box [V.c (C.str q)], O.box [V.fn 87 [V.ptr 1 0 0 0]]]))) := by kernel_rfl
theorem t131b (p : List UInt8) (q : List UInt8) : p131.ft ([V.c (C.str p), V.ptr 0 0 0 0, V.ptr 2 0 0 0]) ([O.box [V.fn 92 [V.ptr 1 0 0 0]], O.box [V.c (C.str q)], O.box [V.fn 93 [V.ptr 1 0 0 0]]]) = (Tr.br (Op.bytesLess p q) (Tr.leaf (R.out [V.c (C.bool true)] [O.box [V.fn 92 [V.ptr 1 0 0 0]], O.box [V.c (C.str q)], O.box [V.fn 93 [V.ptr 1 0 0 0]]])) (Tr.leaf (R.out [V.c (C.bool (begins p q))] [O.box [V.fn 92 [V.ptr 1 0 0 0]], O.box [V.c (C.str q)], O.box [V.fn 93 [V.ptr 1 0 0 0]]]))) := by kernel_rfl
def s131 : CSpec := fun a h => match a, h with
  | [.c (.str p), .ptr 0 0 0 0, .ptr 2 0 0 0], [.box [.fn 86 [.ptr 1 0 0 0]], .box [.c (.str q)], .box [.fn 87 [.ptr 1 0 0 0]]] => some ([], [V.b (Op.bytesLess p q || decide (p = q))], [.box [.fn 86 [.ptr 1 0 0 0]], .box [.c (.str q)], .box [.fn 87 [.ptr 1 0 0 0]]])
  | [.c (.str p), .ptr 0 0 0 0, .ptr 2 0 0 0], [.box [.fn 92 [.ptr 1 0 0 0]], .box [.c (.str q)], .box [.fn 93 [.ptr 1 0 0 0]]] => some ([], [V.b (Op.bytesLess p q || begins p q)], [.box [.fn 92 [.ptr 1 0 0 0]], .box [.c (.str q)], .box [.fn 93 [.ptr 1 0 0 0]]])
  | _, _ => none
noncomputable abbrev p130a : Par := par E sh (ctOf [(86, s86), (92, s86), (131, s131)]) 130 3 2
theorem t130a (p : List UInt8) (c : Int) (k : Int) (q : List UInt8) (m : Int) : p130a.ft ([V.agg [V.c (C.str p), V.i c, V.i k], V.i m, V.ptr 0 0 0 0]) ([O.box [V.fn 86 [V.ptr 1 0 0 0]], O.box [V.c (C.str q)]]) = (Tr.br (Op.bytesLess p q) (Tr.leaf (R.out [V.c (C.int IntKind.i64 (-1))] [O.box [V.fn 86 [V.ptr 1 0 0 0]], O.box [V.c (C.str q)]])) (Tr.leaf (R.out [V.c (C.int IntKind.i64 1)] [O.box [V.fn 86 [V.ptr 1 0 0 0]], O.box [V.c (C.str q)]]))) := by kernel_rfl
noncomputable abbrev p130b : Par := par E sh (ctOf [(86, s86), (92, s86), (131, s131)]) 130 3 2
theorem t130b (p : List UInt8) (c : Int) (k : Int) (q : List UInt8) (m : Int) : p130b.ft ([V.agg [V.c (C.str p), V.i c, V.i k], V.i m, V.ptr 0 0 0 0]) ([O.box [V.fn 92 [V.ptr 1 0 0 0]], O.box [V.c (C.str q)]]) = (Tr.br (Op.bytesLess p q) (Tr.leaf (R.out [V.c (C.int IntKind.i64 (-1))] [O.box [V.fn 92 [V.ptr 1 0 0 0]], O.box [V.c (C.str q)]])) (Tr.leaf (R.out [V.c (C.int IntKind.i64 1)] [O.box [V.fn 92 [V.ptr 1 0 0 0]], O.box [V.c (C.str q)]]))) := by kernel_rfl
noncomputable abbrev p130c : Par := par E sh (ctOf [(86, s86), (92, s86), (131, s131)]) 130 3 4
theorem t130c (p : List UInt8) (c : Int) (k : Int) (q : List UInt8) (m : Int) : p130c.ft ([V.agg [V.c (C.str p), V.i c, V.i k], V.i m, V.ptr 0 0 0 0]) ([O.box [V.fn 131 [V.ptr 1 0 0 0, V.ptr 3 0 0 0]], O.box [V.fn 86 [V.ptr 2 0 0 0]], O.box [V.c (C.str q)], O.box [V.fn 87 [V.ptr 2 0 0 0]]]) = (Tr.br (Op.bytesLess p q || decide (p = q)) (Tr.leaf (R.out [V.c (C.int IntKind.i64 (-1))] [O.box [V.fn 131 [V.ptr 1 0 0 0, V.ptr 3 0 0 0]], O.box [V.fn 86 [V.ptr 2 0 0 0]], O.box [V.c (C.str q)], O.box [V.fn 87 [V.ptr 2 0 0 0]]])) (Tr.leaf (R.out [V.c (C.int IntKind.i64 1)] [O.box [V.fn 131 [V.ptr 1 0 0 0, V.ptr 3 0 0 0]], O.box [V.fn 86 [V.ptr 2 0 0 0]], O.box [V.c (C.str q)], O.box [V.fn 87 [V.ptr 2 0 0 0]]]))) := by kernel_rfl
noncomputable abbrev p130d : Par := par E sh (ctOf [(86, s86), (92, s86), (131, s131)]) 130 3 4
theorem t130d (p : List UInt8) (c : Int) (k : Int) (q : List UInt8) (m : Int) : p130d.ft ([V.agg [V.c (C.str p), V.i c, V.i k], V.i m, V.ptr 0 0 0 0]) ([O.box [V.fn 131 [V.ptr 1 0 0 0, V.ptr 3 0 0 0]], O.box [V.fn 92 [V.ptr 2 0 0 0]], O.box [V.c (C.str q)], O.box [V.fn 93 [V.ptr 2 0 0 0]]]) = (Tr.br (Op.bytesLess p q || begins p q) (Tr.leaf (R.out [V.c (C.int IntKind.i64 (-1))] [O.box [V.fn 131 [V.ptr 1 0 0 0, V.ptr 3 0 0 0]], O.box [V.fn 92 [V.ptr 2 0 0 0]], O.box [V.c (C.str q)], O.box [V.fn 93 [V.ptr 2 0 0 0]]])) (Tr.leaf (R.out [V.c (C.int IntKind.i64 1)] [O.box [V.fn 131 [V.ptr 1 0 0 0, V.ptr 3 0 0 0]], O.box [V.fn 92 [V.ptr 2 0 0 0]], O.box [V.c (C.str q)], O.box [V.fn 93 [V.ptr 2 0 0 0]]]))) := by kernel_rfl
end Go.Proofs.YtbilmkcdhodenaaDoor

end

/-
  Chapter 13 (posting): trees, written by a program: halves, within.
-/
section
namespace Go.Proofs.YtbilmkcdhodenaaDoor
open Go Go.Ev
set_option pp.deepTerms true
set_option pp.maxSteps 1000000
set_option pp.funBinderTypes true
set_option pp.coercions.types true
def sgnI : Bool → Int
  | true => -1
  | false => 1
def s130 : CSpec := fun a h => match a, h with
  | [.agg [.c (.str p), .c (.int .i64 c), .c (.int .i64 k)], .c (.int .i64 _), .ptr 0 0 0 0], [.box [.fn 86 [.ptr 1 0 0 0]], .box [.c (.str q)]] => some ([], [V.i (sgnI ((fun p => Op.bytesLess p q) p))], [.box [.fn 86 [.ptr 1 0 0 0]], .box [.c (.str q)]])
  | [.agg [.c (.str p), .c (.int .i64 c), .c (.int .i64 k)], .c (.int .i64 _), .ptr 0 0 0 0], [.box [.fn 92 [.ptr 1 0 0 0]], .box [.c (.str q)]] => some ([], [V.i (sgnI ((fun p => Op.bytesLess p q) p))], [.box [.fn 92 [.ptr 1 0 0 0]], .box [.c (.str q)]])
  | [.agg [.c (.str p), .c (.int .i64 c), .c (.int .i64 k)], .c (.int .i64 _), .ptr 0 0 0 0], [.box [.fn 131 [.ptr 1 0 0 0, .ptr 3 0 0 0]], .box [.fn 86 [.ptr 2 0 0 0]], .box [.c (.str q)], .box [.fn 87 [.ptr 2 0 0 0]]] => some ([], [V.i (sgnI ((fun p => Op.bytesLess p q || decide (p = q)) p))], [.box [.fn 131 [.ptr 1 0 0 0, .ptr 3 0 0 0]], .box [.fn 86 [.ptr 2 0 0 0]], .box [.c (.str q)], .box [.fn 87 [.ptr 2 0 0 0]]])
  | [.agg [.c (.str p), .c (.int .i64 c), .c (.int .i64 k)], .c (.int .i64 _), .ptr 0 0 0 0], [.box [.fn 131 [.ptr 1 0 0 0, .ptr 3 0 0 0]], .box [.fn 92 [.ptr 2 0 0 0]], .box [.c (.str q)], .box [.fn 93 [.ptr 2 0 0 0]]] => some ([], [V.i (sgnI ((fun p => Op.bytesLess p q || begins p q) p))], [.box [.fn 131 [.ptr 1 0 0 0, .ptr 3 0 0 0]], .box [.fn 92 [.ptr 2 0 0 0]], .box [.c (.str q)], .box [.fn 93 [.ptr 2 0 0 0]]])
  | _, _ => none
noncomputable abbrev p129a : Par := par E sh (ctOf [(130, s130)]) 129 3 2
abbrev s129a_0 (nl : Option Bool) (tt : Bool) (xs : List (List C)) (q : List UInt8) (m : Int) (i8 : Int) (i9 : Int) (i10 : Int) : Fr × Hp := ([(0, V.c (C.sl 3 nl tt xs)), (1, V.c (C.int IntKind.i64 m)), (2, V.fn 130 [V.ptr 0 0 0 0]), (8, V.c (C.int IntKind.i64 i8)), (9, V.c (C.int IntKind.i64 i9)), (10, V.c (C.int IntKind.i64 i10))], [O.box [V.fn 86 [V.ptr 1 0 0 0]], O.box [V.c (C.str q)]])
noncomputable abbrev b129a_0 : Code := loopAt (codeOf p129a.E p129a.g) 0
abbrev x129a_0x0 (nl : Option Bool) (tt : Bool) (xs : List (List C)) (q : List UInt8) (m : Int) (i8 : Int) (i9 : Int) (i10 : Int) : Ex × Fr × Hp := (Ex.exit 0, [(0, V.c (C.sl 3 nl tt xs)), (1, V.c (C.int IntKind.i64 m)), (2, V.fn 130 [V.ptr 0 0 0 0]), (8, V.c (C.int IntKind.i64 i8)), (9, V.c (C.int IntKind.i64 i9)), (10, V.c (C.int IntKind.i64 i10)), (17, V.c (C.bool false))], [O.box [V.fn 86 [V.ptr 1 0 0 0]], O.box [V.c (C.str q)]])
theorem t129a_0 (nl : Option Bool) (tt : Bool) (xs : List (List C)) (q : List UInt8) (m : Int) (i8 : Int) (i9 : Int) (i10 : Int) : p129a.lts b129a_0 (s129a_0 nl tt xs q m i8 i9 i10) = (Tr.br (decide (i9 < i10)) (Tr.chk (decide (0 ≤ IntKind.i64.wrap (IntKind.u64.wrap (IntKind.i64.wrap (i9 + i10)) / 2 ^ min (Int.toNat 1) IntKind.u64.bits))) (Tr.chk true (Tr.chk (decide ((IntKind.i64.wrap (IntKind.u64.wrap (IntKind.i64.wrap (i9 + i10)) / 2 ^ min (Int.toNat 1) IntKind.u64.bits)).toNat < xs.length)) (Tr.chk (shOk [Sk.str, Sk.int IntKind.i64, Sk.int IntKind.i64] (xs.getD (IntKind.i64.wrap (IntKind.u64.wrap (IntKind.i64.wrap (i9 + i10)) / 2 ^ min (Int.toNat 1) IntKind.u64.bits)).toNat [])) (Tr.br (decide (sgnI (Op.bytesLess ((xs.getD (IntKind.i64.wrap (IntKind.u64.wrap (IntKind.i64.wrap (i9 + i10)) / 2 ^ min (Int.toNat 1) IntKind.u64.bits)).toNat []).headD C.pnil).st q) < 0)) (Tr.leaf (R.s (s129a_0 nl tt xs q m i8 (IntKind.i64.wrap (IntKind.i64.wrap (IntKind.u64.wrap (IntKind.i64.wrap (i9 + i10)) / 2 ^ min (Int.toNat 1) IntKind.u64.bits) + 1)) i10))) (Tr.leaf (R.s (s129a_0 nl tt xs q m i8 i9 (IntKind.i64.wrap (IntKind.u64.wrap (IntKind.i64.wrap (i9 + i10)) / 2 ^ min (Int.toNat 1) IntKind.u64.bits)))))))))) (Tr.leaf (R.x (x129a_0x0 nl tt xs q m i8 i9 i10)))) := by kernel_rfl
theorem k129a_0x0 (nl : Option Bool) (tt : Bool) (xs : List (List C)) (q : List UInt8) (m : Int) (i8 : Int) (i9 : Int) (i10 : Int) : p129a.fkx 0 (x129a_0x0 nl tt xs q m i8 i9 i10) = (Tr.br (decide (i9 < i8)) (Tr.chk (decide (0 ≤ i9)) (Tr.chk true (Tr.chk (decide (i9.toNat < xs.length)) (Tr.chk (shOk [Sk.str, Sk.int IntKind.i64, Sk.int IntKind.i64] (xs.getD i9.toNat [])) (Tr.leaf (R.out [V.c (C.int IntKind.i64 i9), V.c (C.bool (sgnI (Op.bytesLess ((xs.getD i9.toNat []).headD C.pnil).st q) == 0))] [O.box [V.fn 86 [V.ptr 1 0 0 0]], O.box [V.c (C.str q)]])))))) (Tr.leaf (R.out [V.c (C.int IntKind.i64 i9), V.c (C.bool false)] [O.box [V.fn 86 [V.ptr 1 0 0 0]], O.box [V.c (C.str q)]]))) := by kernel_rfl
theorem t129a (nl : Option Bool) (tt : Bool) (xs : List (List C)) (q : List UInt8) (m : Int) : p129a.ft ([V.c (C.sl 3 nl tt xs), V.i m, V.fn 130 [V.ptr 0 0 0 0]]) ([O.box [V.fn 86 [V.ptr 1 0 0 0]], O.box [V.c (C.str q)]]) = (Tr.ls 0 (s129a_0 nl tt xs q m ((↑xs.length : Int)) (0) ((↑xs.length : Int)))) := by kernel_rfl
noncomputable abbrev p129b : Par := par E sh (ctOf [(130, s130)]) 129 3 2
abbrev s129b_0 (nl : Option Bool) (tt : Bool) (xs : List (List C)) (q : List UInt8) (m : Int) (i8 : Int) (i9 : Int) (i10 : Int) : Fr × Hp := ([(0, V.c (C.sl 3 nl tt xs)), (1, V.c (C.int IntKind.i64 m)), (2, V.fn 130 [V.ptr 0 0 0 0]), (8, V.c (C.int IntKind.i64 i8)), (9, V.c (C.int IntKind.i64 i9)), (10, V.c (C.int IntKind.i64 i10))], [O.box [V.fn 92 [V.ptr 1 0 0 0]], O.box [V.c (C.str q)]])
noncomputable abbrev b129b_0 : Code := loopAt (codeOf p129b.E p129b.g) 0
abbrev x129b_0x0 (nl : Option Bool) (tt : Bool) (xs : List (List C)) (q : List UInt8) (m : Int) (i8 : Int) (i9 : Int) (i10 : Int) : Ex × Fr × Hp := (Ex.exit 0, [(0, V.c (C.sl 3 nl tt xs)), (1, V.c (C.int IntKind.i64 m)), (2, V.fn 130 [V.ptr 0 0 0 0]), (8, V.c (C.int IntKind.i64 i8)), (9, V.c (C.int IntKind.i64 i9)), (10, V.c (C.int IntKind.i64 i10)), (17, V.c (C.bool false))], [O.box [V.fn 92 [V.ptr 1 0 0 0]], O.box [V.c (C.str q)]])
theorem t129b_0 (nl : Option Bool) (tt : Bool) (xs : List (List C)) (q : List UInt8) (m : Int) (i8 : Int) (i9 : Int) (i10 : Int) : p129b.lts b129b_0 (s129b_0 nl tt xs q m i8 i9 i10) = (Tr.br (decide (i9 < i10)) (Tr.chk (decide (0 ≤ IntKind.i64.wrap (IntKind.u64.wrap (IntKind.i64.wrap (i9 + i10)) / 2 ^ min (Int.toNat 1) IntKind.u64.bits))) (Tr.chk true (Tr.chk (decide ((IntKind.i64.wrap (IntKind.u64.wrap (IntKind.i64.wrap (i9 + i10)) / 2 ^ min (Int.toNat 1) IntKind.u64.bits)).toNat < xs.length)) (Tr.chk (shOk [Sk.str, Sk.int IntKind.i64, Sk.int IntKind.i64] (xs.getD (IntKind.i64.wrap (IntKind.u64.wrap (IntKind.i64.wrap (i9 + i10)) / 2 ^ min (Int.toNat 1) IntKind.u64.bits)).toNat [])) (Tr.br (decide (sgnI (Op.bytesLess ((xs.getD (IntKind.i64.wrap (IntKind.u64.wrap (IntKind.i64.wrap (i9 + i10)) / 2 ^ min (Int.toNat 1) IntKind.u64.bits)).toNat []).headD C.pnil).st q) < 0)) (Tr.leaf (R.s (s129b_0 nl tt xs q m i8 (IntKind.i64.wrap (IntKind.i64.wrap (IntKind.u64.wrap (IntKind.i64.wrap (i9 + i10)) / 2 ^ min (Int.toNat 1) IntKind.u64.bits) + 1)) i10))) (Tr.leaf (R.s (s129b_0 nl tt xs q m i8 i9 (IntKind.i64.wrap (IntKind.u64.wrap (IntKind.i64.wrap (i9 + i10)) / 2 ^ min (Int.toNat 1) IntKind.u64.bits)))))))))) (Tr.leaf (R.x (x129b_0x0 nl tt xs q m i8 i9 i10)))) := by kernel_rfl
theorem k129b_0x0 (nl : Option Bool) (tt : Bool) (xs : List (List C)) (q : List UInt8) (m : Int) (i8 : Int) (i9 : Int) (i10 : Int) : p129b.fkx 0 (x129b_0x0 nl tt xs q m i8 i9 i10) = (Tr.br (decide (i9 < i8)) (Tr.chk (decide (0 ≤ i9)) (Tr.chk true (Tr.chk (decide (i9.toNat < xs.length)) (Tr.chk (shOk [Sk.str, Sk.int IntKind.i64, Sk.int IntKind.i64] (xs.getD i9.toNat [])) (Tr.leaf (R.out [V.c (C.int IntKind.i64 i9), V.c (C.bool (sgnI (Op.bytesLess ((xs.getD i9.toNat []).headD C.pnil).st q) == 0))] [O.box [V.fn 92 [V.ptr 1 0 0 0]], O.box [V.c (C.str q)]])))))) (Tr.leaf (R.out [V.c (C.int IntKind.i64 i9), V.c (C.bool false)] [O.box [V.fn 92 [V.ptr 1 0 0 0]], O.box [V.c (C.str q)]]))) := by kernel_rfl
theorem t129b (nl : Option Bool) (tt : Bool) (xs : List (List C)) (q : List UInt8) (m : Int) : p129b.ft ([V.c (C.sl 3 nl tt xs), V.i m, V.fn 130 [V.ptr 0 0 0 0]]) ([O.box [V.fn 92 [V.ptr 1 0 0 0]], O.box [V.c (C.str q)]]) = (Tr.ls 0 (s129b_0 nl tt xs q m ((↑xs.length : Int)) (0) ((↑xs.length : Int)))) := by kernel_rfl
noncomputable abbrev p129c : Par := par E sh (ctOf [(130, s130)]) 129 3 4
abbrev s129c_0 (nl : Option Bool) (tt : Bool) (xs : List (List C)) (q : List UInt8) (m : Int) (i8 : Int) (i9 : Int) (i10 : Int) : Fr × Hp := ([(0, V.c (C.sl 3 nl tt xs)), (1, V.c (C.int IntKind.i64 m)), (2, V.fn 130 [V.ptr 0 0 0 0]), (8, V.c (C.int IntKind.i64 i8)), (9, V.c (C.int IntKind.i64 i9)), (10, V.c (C.int IntKind.i64 i10))], [O.box [V.fn 131 [V.ptr 1 0 0 0, V.ptr 3 0 0 0]], O.box [V.fn 86 [V.ptr 2 0 0 0]], O.box [V.c (C.str q)], O.box [V.fn 87 [V.ptr 2 0 0 0]]])
noncomputable abbrev b129c_0 : Code := loopAt (codeOf p129c.E p129c.g) 0
abbrev x129c_0x0 (nl : Option Bool) (tt : Bool) (xs : List (List C)) (q : List UInt8) (m : Int) (i8 : Int) (i9 : Int) (i10 : Int) : Ex × Fr × Hp := (Ex.exit 0, [(0, V.c (C.sl 3 nl tt xs)), (1, V.c (C.int IntKind.i64 m)), (2, V.fn 130 [V.ptr 0 0 0 0]), (8, V.c (C.int IntKind.i64 i8)), (9, V.c (C.int IntKind.i64 i9)), (10, V.c (C.int IntKind.i64 i10)), (17, V.c (C.bool false))], [O.box [V.fn 131 [V.ptr 1 0 0 0, V.ptr 3 0 0 0]], O.box [V.fn 86 [V.ptr 2 0 0 0]], O.box [V.c (C.str q)], O.box [V.fn 87 [V.ptr 2 0 0 0]]])
theorem t129c_0 (nl : Option Bool) (tt : Bool) (xs : List (List C)) (q : List UInt8) (m : Int) (i8 : Int) (i9 : Int) (i10 : Int) : p129c.lts b129c_0 (s129c_0 nl tt xs q m i8 i9 i10) = (Tr.br (decide (i9 < i10)) (Tr.chk (decide (0 ≤ IntKind.i64.wrap (IntKind.u64.wrap (IntKind.i64.wrap (i9 + i10)) / 2 ^ min (Int.toNat 1) IntKind.u64.bits))) (Tr.chk true (Tr.chk (decide ((IntKind.i64.wrap (IntKind.u64.wrap (IntKind.i64.wrap (i9 + i10)) / 2 ^ min (Int.toNat 1) IntKind.u64.bits)).toNat < xs.length)) (Tr.chk (shOk [Sk.str, Sk.int IntKind.i64, Sk.int IntKind.i64] (xs.getD (IntKind.i64.wrap (IntKind.u64.wrap (IntKind.i64.wrap (i9 + i10)) / 2 ^ min (Int.toNat 1) IntKind.u64.bits)).toNat [])) (Tr.br (decide (sgnI (Op.bytesLess ((xs.getD (IntKind.i64.wrap (IntKind.u64.wrap (IntKind.i64.wrap (i9 + i10)) / 2 ^ min (Int.toNat 1) IntKind.u64.bits)).toNat []).headD C.pnil).st q || decide (((xs.getD (IntKind.i64.wrap (IntKind.u64.wrap (IntKind.i64.wrap (i9 + i10)) / 2 ^ min (Int.toNat 1) IntKind.u64.bits)).toNat []).headD C.pnil).st = q)) < 0)) (Tr.leaf (R.s (s129c_0 nl tt xs q m i8 (IntKind.i64.wrap (IntKind.i64.wrap (IntKind.u64.wrap (IntKind.i64.wrap (i9 + i10)) / 2 ^ min (Int.toNat 1) IntKind.u64.bits) + 1)) i10))) (Tr.leaf (R.s (s129c_0 nl tt xs q m i8 i9 (IntKind.i64.wrap (IntKind.u64.wrap (IntKind.i64.wrap (i9 + i10)) / 2 ^ min (Int.toNat 1) IntKind.u64.bits)))))))))) (Tr.leaf (R.x (x129c_0x0 nl tt xs q m i8 i9 i10)))) := by kernel_rfl
theorem k129c_0x0 (nl : Option Bool) (tt : Bool) (xs : List (List C)) (q : List UInt8) (m : Int) (i8 : Int) (i9 : Int) (i10 : Int) : p129c.fkx 0 (x129c_0x0 nl tt xs q m i8 i9 i10) = (Tr.br (decide (i9 < i8)) (Tr.chk (decide (0 ≤ i9)) (Tr.chk true (Tr.chk (decide (i9.toNat < xs.length)) (Tr.chk (shOk [Sk.str, Sk.int IntKind.i64, Sk.int IntKind.i64] (xs.getD i9.toNat [])) (Tr.leaf (R.out [V.c (C.int IntKind.i64 i9), V.c (C.bool (sgnI (Op.bytesLess ((xs.getD i9.toNat []).headD C.pnil).st q || decide (((xs.getD i9.toNat []).headD C.pnil).st = q)) == 0))] [O.box [V.fn 131 [V.ptr 1 0 0 0, V.ptr 3 0 0 0]], O.box [V.fn 86 [V.ptr 2 0 0 0]], O.box [V.c (C.str q)], O.box [V.fn 87 [V.ptr 2 0 0 0]]])))))) (Tr.leaf (R.out [V.c (C.int IntKind.i64 i9), V.c (C.bool false)] [O.box [V.fn 131 [V.ptr 1 0 0 0, V.ptr 3 0 0 0]], O.box [V.fn 86 [V.ptr 2 0 0 0]], O.box [V.c (C.str q)], O.box [V.fn 87 [V.ptr 2 0 0 0]]]))) := by kernel_rfl
theorem t129c (nl : Option Bool) (tt : Bool) (xs : List (List C)) (q : List UInt8) (m : Int) : p129c.ft ([V.c (C.sl 3 nl tt xs), V.i m, V.fn 130 [V.ptr 0 0 0 0]]) ([O.box [V.fn 131 [V.ptr 1 0 0 0, V.ptr 3 0 0 0]], O.box [V.fn 86 [V.ptr 2 0 0 0]], O.box [V.c (C.str q)], O.box [V.fn 87 [V.ptr 2 0 0 0]]]) = (Tr.ls 0 (s129c_0 nl tt xs q m ((↑xs.length : Int)) (0) ((↑xs.length : Int)))) := by kernel_rfl
noncomputable abbrev p129d : Par := par E sh (ctOf [(130, s130)]) 129 3 4
abbrev s129d_0 (nl : Option Bool) (tt : Bool) (xs : List (List C)) (q : List UInt8) (m : Int) (i8 : Int) (i9 : Int) (i10 : Int) : Fr × Hp := ([(0, V.c (C.sl 3 nl tt xs)), (1, V.c (C.int IntKind.i64 m)), (2, V.fn 130 [V.ptr 0 0 0 0]), (8, V.c (C.int IntKind.i64 i8)), (9, V.c (C.int IntKind.i64 i9)), (10, V.c (C.int IntKind.i64 i10))], [O.box [V.fn 131 [V.ptr 1 0 0 0, V.ptr 3 0 0 0]], O.box [V.fn 92 [V.ptr 2 0 0 0]], O.box [V.c (C.str q)], O.box [V.fn 93 [V.ptr 2 0 0 0]]])
noncomputable abbrev b129d_0 : Code := loopAt (codeOf p129d.E p129d.g) 0
abbrev x129d_0x0 (nl : Option Bool) (tt : Bool) (xs : List (List C)) (q : List UInt8) (m : Int) (i8 : Int) (i9 : Int) (i10 : Int) : Ex × Fr × Hp := (Ex.exit 0, [(0, V.c (C.sl 3 nl tt xs)), (1, V.c (C.int IntKind.i64 m)), (2, V.fn 130 [V.ptr 0 0 0 0]), (8, V.c (C.int IntKind.i64 i8)), (9, V.c (C.int IntKind.i64 i9)), (10, V.c (C.int IntKind.i64 i10)), (17, V.c (C.bool false))], [O.box [V.fn 131 [V.ptr 1 0 0 0, V.ptr 3 0 0 0]], O.box [V.fn 92 [V.ptr 2 0 0 0]], O.box [V.c (C.str q)], O.box [V.fn 93 [V.ptr 2 0 0 0]]])
theorem t129d_0 (nl : Option Bool) (tt : Bool) (xs : List (List C)) (q : List UInt8) (m : Int) (i8 : Int) (i9 : Int) (i10 : Int) : p129d.lts b129d_0 (s129d_0 nl tt xs q m i8 i9 i10) = (Tr.br (decide (i9 < i10)) (Tr.chk (decide (0 ≤ IntKind.i64.wrap (IntKind.u64.wrap (IntKind.i64.wrap (i9 + i10)) / 2 ^ min (Int.toNat 1) IntKind.u64.bits))) (Tr.chk true (Tr.chk (decide ((IntKind.i64.wrap (IntKind.u64.wrap (IntKind.i64.wrap (i9 + i10)) / 2 ^ min (Int.toNat 1) IntKind.u64.bits)).toNat < xs.length)) (Tr.chk (shOk [Sk.str, Sk.int IntKind.i64, Sk.int IntKind.i64] (xs.getD (IntKind.i64.wrap (IntKind.u64.wrap (IntKind.i64.wrap (i9 + i10)) / 2 ^ min (Int.toNat 1) IntKind.u64.bits)).toNat [])) (Tr.br (decide (sgnI (Op.bytesLess ((xs.getD (IntKind.i64.wrap (IntKind.u64.wrap (IntKind.i64.wrap (i9 + i10)) / 2 ^ min (Int.toNat 1) IntKind.u64.bits)).toNat []).headD C.pnil).st q || begins ((xs.getD (IntKind.i64.wrap (IntKind.u64.wrap (IntKind.i64.wrap (i9 + i10)) / 2 ^ min (Int.toNat 1) IntKind.u64.bits)).toNat []).headD C.pnil).st q) < 0)) (Tr.leaf (R.s (s129d_0 nl tt xs q m i8 (IntKind.i64.wrap (IntKind.i64.wrap (IntKind.u64.wrap (IntKind.i64.wrap (i9 + i10)) / 2 ^ min (Int.toNat 1) IntKind.u64.bits) + 1)) i10))) (Tr.leaf (R.s (s129d_0 nl tt xs q m i8 i9 (IntKind.i64.wrap (IntKind.u64.wrap (IntKind.i64.wrap (i9 + i10)) / 2 ^ min (Int.toNat 1) IntKind.u64.bits)))))))))) (Tr.leaf (R.x (x129d_0x0 nl tt xs q m i8 i9 i10)))) := by kernel_rfl
theorem k129d_0x0 (nl : Option Bool) (tt : Bool) (xs : List (List C)) (q : List UInt8) (m : Int) (i8 : Int) (i9 : Int) (i10 : Int) : p129d.fkx 0 (x129d_0x0 nl tt xs q m i8 i9 i10) = (Tr.br (decide (i9 < i8)) (Tr.chk (decide (0 ≤ i9)) (Tr.chk true (Tr.chk (decide (i9.toNat < xs.length)) (Tr.chk (shOk [Sk.str, Sk.int IntKind.i64, Sk.int IntKind.i64] (xs.getD i9.toNat [])) (Tr.leaf (R.out [V.c (C.int IntKind.i64 i9), V.c (C.bool (sgnI (Op.bytesLess ((xs.getD i9.toNat []).headD C.pnil).st q || begins ((xs.getD i9.toNat []).headD C.pnil).st q) == 0))] [O.box [V.fn 131 [V.ptr 1 0 0 0, V.ptr 3 0 0 0]], O.box [V.fn 92 [V.ptr 2 0 0 0]], O.box [V.c (C.str q)], O.box [V.fn 93 [V.ptr 2 0 0 0]]])))))) (Tr.leaf (R.out [V.c (C.int IntKind.i64 i9), V.c (C.bool false)] [O.box [V.fn 131 [V.ptr 1 0 0 0, V.ptr 3 0 0 0]], O.box [V.fn 92 [V.ptr 2 0 0 0]], O.box [V.c (C.str q)], O.box [V.fn 93 [V.ptr 2 0 0 0]]]))) := by kernel_rfl
theorem t129d (nl : Option Bool) (tt : Bool) (xs : List (List C)) (q : List UInt8) (m : Int) : p129d.ft ([V.c (C.sl 3 nl tt xs), V.i m, V.fn 130 [V.ptr 0 0 0 0]]) ([O.box [V.fn 131 [V.ptr 1 0 0 0, V.ptr 3 0 0 0]], O.box [V.fn 92 [V.ptr 2 0 0 0]], O.box [V.c (C.str q)], O.box [V.fn 93 [V.ptr 2 0 0 0]]]) = (Tr.ls 0 (s129d_0 nl tt xs q m ((↑xs.length : Int)) (0) ((↑xs.length : Int)))) := by kernel_rfl
def s129 : CSpec := fun a h => match a, h with
  | [.c (.sl 3 nl tt xs), .c (.int .i64 _), .fn 130 [.ptr 0 0 0 0]], [.box [.fn 86 [.ptr 1 0 0 0]], .box [.c (.str q)]] => some ([isPsts xs, decide (xs.length < 4294967296)], [V.i (bsO (fun p => Op.bytesLess p q) (toPsts xs)), V.b false], [.box [.fn 86 [.ptr 1 0 0 0]], .box [.c (.str q)]])
  | [.c (.sl 3 nl tt xs), .c (.int .i64 _), .fn 130 [.ptr 0 0 0 0]], [.box [.fn 92 [.ptr 1 0 0 0]], .box [.c (.str q)]] => some ([isPsts xs, decide (xs.length < 4294967296)], [V.i (bsO (fun p => Op.bytesLess p q) (toPsts xs)), V.b false], [.box [.fn 92 [.ptr 1 0 0 0]], .box [.c (.str q)]])
  | [.c (.sl 3 nl tt xs), .c (.int .i64 _), .fn 130 [.ptr 0 0 0 0]], [.box [.fn 131 [.ptr 1 0 0 0, .ptr 3 0 0 0]], .box [.fn 86 [.ptr 2 0 0 0]], .box [.c (.str q)], .box [.fn 87 [.ptr 2 0 0 0]]] => some ([isPsts xs, decide (xs.length < 4294967296)], [V.i (bsO (fun p => Op.bytesLess p q || decide (p = q)) (toPsts xs)), V.b false], [.box [.fn 131 [.ptr 1 0 0 0, .ptr 3 0 0 0]], .box [.fn 86 [.ptr 2 0 0 0]], .box [.c (.str q)], .box [.fn 87 [.ptr 2 0 0 0]]])
  | [.c (.sl 3 nl tt xs), .c (.int .i64 _), .fn 130 [.ptr 0 0 0 0]], [.box [.fn 131 [.ptr 1 0 0 0, .ptr 3 0 0 0]], .box [.fn 92 [.ptr 2 0 0 0]], .box [.c (.str q)], .box [.fn 93 [.ptr 2 0 0 0]]] => some ([isPsts xs, decide (xs.length < 4294967296)], [V.i (bsO (fun p => Op.bytesLess p q || begins p q) (toPsts xs)), V.b false], [.box [.fn 131 [.ptr 1 0 0 0, .ptr 3 0 0 0]], .box [.fn 92 [.ptr 2 0 0 0]], .box [.c (.str q)], .box [.fn 93 [.ptr 2 0 0 0]]])
  | _, _ => none
noncomputable abbrev p128a : Par := par E sh (ctOf [(129, s129)]) 128 2 2
theorem t128a (nl : Option Bool) (tt : Bool) (xs : List (List C)) (q : List UInt8) : p128a.ft ([V.fn 86 [V.ptr 0 0 0 0], V.ptr 1 0 0 0]) ([O.box [V.c (C.str q)], O.box [V.c (C.sl 3 nl tt xs)]]) = (Tr.chk (isPsts xs) (Tr.chk (decide (xs.length < 4294967296)) (Tr.leaf (R.out [V.c (C.int IntKind.i64 (↑(bsO (fun (p : List UInt8) => Op.bytesLess p q) (toPsts xs)) : Int))] [O.box [V.c (C.str q)], O.box [V.c (C.sl 3 nl tt xs)]])))) := by kernel_rfl
noncomputable abbrev p128b : Par := par E sh (ctOf [(129, s129)]) 128 2 2
theorem t128b (nl : Option Bool) (tt : Bool) (xs : List (List C)) (q : List UInt8) : p128b.ft ([V.fn 92 [V.ptr 0 0 0 0], V.ptr 1 0 0 0]) ([O.box [V.c (C.str q)], O.box [V.c (C.sl 3 nl tt xs)]]) = (Tr.chk (isPsts xs) (Tr.chk (decide (xs.length < 4294967296)) (Tr.leaf (R.out [V.c (C.int IntKind.i64 (↑(bsO (fun (p : List UInt8) => Op.bytesLess p q) (toPsts xs)) : Int))] [O.box [V.c (C.str q)], O.box [V.c (C.sl 3 nl tt xs)]])))) := by kernel_rfl
noncomputable abbrev p128c : Par := par E sh (ctOf [(129, s129)]) 128 2 4
theorem t128c (nl : Option Bool) (tt : Bool) (xs : List (List C)) (q : List UInt8) : p128c.ft ([V.fn 131 [V.ptr 0 0 0 0, V.ptr 2 0 0 0], V.ptr 3 0 0 0]) ([O.box [V.fn 86 [V.ptr 1 0 0 0]], O.box [V.c (C.str q)], O.box [V.fn 87 [V.ptr 1 0 0 0]], O.box [V.c (C.sl 3 nl tt xs)]]) = (Tr.chk (isPsts xs) (Tr.chk (decide (xs.length < 4294967296)) (Tr.leaf (R.out [V.c (C.int IntKind.i64 (↑(bsO (fun (p : List UInt8) => Op.bytesLess p q || decide (p = q)) (toPsts xs)) : Int))] [O.box [V.fn 86 [V.ptr 1 0 0 0]], O.box [V.c (C.str q)], O.box [V.fn 87 [V.ptr 1 0 0 0]], O.box [V.c (C.sl 3 nl tt xs)]])))) := by kernel_rfl
noncomputable abbrev p128d : Par := par E sh (ctOf [(129, s129)]) 128 2 4
theorem t128d (nl : Option Bool) (tt : Bool) (xs : List (List C)) (q : List UInt8) : p128d.ft ([V.fn 131 [V.ptr 0 0 0 0, V.ptr 2 0 0 0], V.ptr 3 0 0 0]) ([O.box [V.fn 92 [V.ptr 1 0 0 0]], O.box [V.c (C.str q)], O.box [V.fn 93 [V.ptr 1 0 0 0]], O.box [V.c (C.sl 3 nl tt xs)]]) = (Tr.chk (isPsts xs) (Tr.chk (decide (xs.length < 4294967296)) (Tr.leaf (R.out [V.c (C.int IntKind.i64 (↑(bsO (fun (p : List UInt8) => Op.bytesLess p q || begins p q) (toPsts xs)) : Int))] [O.box [V.fn 92 [V.ptr 1 0 0 0]], O.box [V.c (C.str q)], O.box [V.fn 93 [V.ptr 1 0 0 0]], O.box [V.c (C.sl 3 nl tt xs)]])))) := by kernel_rfl
def s128 : CSpec := fun a h => match a, h with
  | [.fn 86 [.ptr 0 0 0 0], .ptr 1 0 0 0], [.box [.c (.str q)], .box [.c (.sl 3 nl tt xs)]] => some ([isPsts xs, decide (xs.length < 4294967296)], [V.i (bsO (fun p => Op.bytesLess p q) (toPsts xs))], [.box [.c (.str q)], .box [.c (.sl 3 nl tt xs)]])
  | [.fn 92 [.ptr 0 0 0 0], .ptr 1 0 0 0], [.box [.c (.str q)], .box [.c (.sl 3 nl tt xs)]] => some ([isPsts xs, decide (xs.length < 4294967296)], [V.i (bsO (fun p => Op.bytesLess p q) (toPsts xs))], [.box [.c (.str q)], .box [.c (.sl 3 nl tt xs)]])
  | [.fn 131 [.ptr 0 0 0 0, .ptr 2 0 0 0], .ptr 3 0 0 0], [.box [.fn 86 [.ptr 1 0 0 0]], .box [.c (.str q)], .box [.fn 87 [.ptr 1 0 0 0]], .box [.c (.sl 3 nl tt xs)]] => some ([isPsts xs, decide (xs.length < 4294967296)], [V.i (bsO (fun p => Op.bytesLess p q || decide (p = q)) (toPsts xs))], [.box [.fn 86 [.ptr 1 0 0 0]], .box [.c (.str q)], .box [.fn 87 [.ptr 1 0 0 0]], .box [.c (.sl 3 nl tt xs)]])
  | [.fn 131 [.ptr 0 0 0 0, .ptr 2 0 0 0], .ptr 3 0 0 0], [.box [.fn 92 [.ptr 1 0 0 0]], .box [.c (.str q)], .box [.fn 93 [.ptr 1 0 0 0]], .box [.c (.sl 3 nl tt xs)]] => some ([isPsts xs, decide (xs.length < 4294967296)], [V.i (bsO (fun p => Op.bytesLess p q || begins p q) (toPsts xs))], [.box [.fn 92 [.ptr 1 0 0 0]], .box [.c (.str q)], .box [.fn 93 [.ptr 1 0 0 0]], .box [.c (.sl 3 nl tt xs)]])
  | _, _ => none
def s132 : CSpec := fun a h => match a, h with
  | [.c (.sl 3 nl tt xs)], [] => some ([decide (xs.length < 4294967296), decide (nl ≠ some true ∨ xs = [])], [.c (.sl 3 none false xs)], [])
  | _, _ => none
noncomputable abbrev p85a : Par := par E sh (ctOf [(43, s43), (128, s128), (132, s132)]) 85 3 1
theorem t85a (nl : Option Bool) (tt : Bool) (xs : List (List C)) (q : List UInt8) : p85a.ft ([V.c (C.sl 3 nl tt xs), V.fn 86 [V.ptr 0 0 0 0], V.fn 87 [V.ptr 0 0 0 0]]) ([O.box [V.c (C.str q)]]) = (Tr.chk (isPsts xs) (Tr.chk (decide (xs.length < 4294967296)) (Tr.br (checkP (toPsts xs) != 0) (Tr.leaf (R.out [V.c (C.sl 3 none false [])] [O.box [V.c (C.str q)]])) (Tr.chk (isPsts xs) (Tr.chk (decide (xs.length < 4294967296)) (Tr.chk (isPsts xs) (Tr.chk (decide (xs.length < 4294967296)) (Tr.chk true (Tr.chk true (Tr.chk true (Tr.chk (decide ((↑(bsO (fun (p : List UInt8) => Op.bytesLess p q) (toPsts xs)) : Int).toNat ≤ (↑(bsO (fun (p : List UInt8) => Op.bytesLess p q || decide (p = q)) (toPsts xs)) : Int).toNat)) (Tr.chk (decide ((↑(bsO (fun (p : List UInt8) => Op.bytesLess p q || decide (p = q)) (toPsts xs)) : Int).toNat ≤ xs.length)) (Tr.chk true (Tr.chk (decide ((↑(bsO (fun (p : List UInt8) => Op.bytesLess p q || decide (p = q)) (toPsts xs)) : Int).toNat = (↑(bsO (fun (p : List UInt8) => Op.bytesLess p q || decide (p = q)) (toPsts xs)) : Int).toNat)) (Tr.chk (decide ((List.drop (↑(bsO (fun (p : List UInt8) => Op.bytesLess p q) (toPsts xs)) : Int).toNat (List.take (↑(bsO (fun (p : List UInt8) => Op.bytesLess p q || decide (p = q)) (toPsts xs)) : Int).toNat xs)).length < 4294967296)) (Tr.chk (decide (nl ≠ some true ∨ List.drop (↑(bsO (fun (p : List UInt8) => Op.bytesLess p q) (toPsts xs)) : Int).toNat (List.take (↑(bsO (fun (p : List UInt8) => Op.bytesLess p q || decide (p = q)) (toPsts xs)) : Int).toNat xs) = [])) (Tr.leaf (R.out [V.c (C.sl 3 none false (List.drop (↑(bsO (fun (p : List UInt8) => Op.bytesLess p q) (toPsts xs)) : Int).toNat (List.take (↑(bsO (fun (p : List UInt8) => Op.bytesLess p q || decide (p = q)) (toPsts xs)) : Int).toNat xs)))] [O.box [V.c (C.str q)]])))))))))))))))))) := by kernel_rfl
noncomputable abbrev p85b : Par := par E sh (ctOf [(43, s43), (128, s128), (132, s132)]) 85 3 1
theorem t85b (nl : Option Bool) (tt : Bool) (xs : List (List C)) (q : List UInt8) : p85b.ft ([V.c (C.sl 3 nl tt xs), V.fn 92 [V.ptr 0 0 0 0], V.fn 93 [V.ptr 0 0 0 0]]) ([O.box [V.c (C.str q)]]) = (Tr.chk (isPsts xs) (Tr.chk (decide (xs.length < 4294967296)) (Tr.br (checkP (toPsts xs) != 0) (Tr.leaf (R.out [V.c (C.sl 3 none false [])] [O.box [V.c (C.str q)]])) (Tr.chk (isPsts xs) (Tr.chk (decide (xs.length < 4294967296)) (Tr.chk (isPsts xs) (Tr.chk (decide (xs.length < 4294967296)) (Tr.chk true (Tr.chk true (Tr.chk true (Tr.chk (decide ((↑(bsO (fun (p : List UInt8) => Op.bytesLess p q) (toPsts xs)) : Int).toNat ≤ (↑(bsO (fun (p : List UInt8) => Op.bytesLess p q || begins p q) (toPsts xs)) : Int).toNat)) (Tr.chk (decide ((↑(bsO (fun (p : List UInt8) => Op.bytesLess p q || begins p q) (toPsts xs)) : Int).toNat ≤ xs.length)) (Tr.chk true (Tr.chk (decide ((↑(bsO (fun (p : List UInt8) => Op.bytesLess p q || begins p q) (toPsts xs)) : Int).toNat = (↑(bsO (fun (p : List UInt8) => Op.bytesLess p q || begins p q) (toPsts xs)) : Int).toNat)) (Tr.chk (decide ((List.drop (↑(bsO (fun (p : List UInt8) => Op.bytesLess p q) (toPsts xs)) : Int).toNat (List.take (↑(bsO (fun (p : List UInt8) => Op.bytesLess p q || begins p q) (toPsts xs)) : Int).toNat xs)).length < 4294967296)) (Tr.chk (decide (nl ≠ some true ∨ List.drop (↑(bsO (fun (p : List UInt8) => Op.bytesLess p q) (toPsts xs)) : Int).toNat (List.take (↑(bsO (fun (p : List UInt8) => Op.bytesLess p q || begins p q) (toPsts xs)) : Int).toNat xs) = [])) (Tr.leaf (R.out [V.c (C.sl 3 none false (List.drop (↑(bsO (fun (p : List UInt8) => Op.bytesLess p q) (toPsts xs)) : Int).toNat (List.take (↑(bsO (fun (p : List UInt8) => Op.bytesLess p q || begins p q) (toPsts xs)) : Int).toNat xs)))] [O.box [V.c (C.str q)]])))))))))))))))))) := by kernel_rfl
def s85 : CSpec := fun a h => match a, h with
  | [.c (.sl 3 nl tt xs), .fn 86 [.ptr 0 0 0 0], .fn 87 [.ptr 0 0 0 0]], [.box [.c (.str q)]] => some ([isPsts xs, decide (xs.length < 4294967296), decide (nl ≠ some true ∨ xs = [])], [.c (.sl 3 none false (psts (probeP (toPsts xs) q)))], [.box [.c (.str q)]])
  | [.c (.sl 3 nl tt xs), .fn 92 [.ptr 0 0 0 0], .fn 93 [.ptr 0 0 0 0]], [.box [.c (.str q)]] => some ([isPsts xs, decide (xs.length < 4294967296), decide (nl ≠ some true ∨ xs = [])], [.c (.sl 3 none false (psts (underP (toPsts xs) q)))], [.box [.c (.str q)]])
  | _, _ => none
noncomputable abbrev p47 : Par := par E sh (ctOf [(85, s85)]) 47 2 0
theorem t47 (nl : Option Bool) (tt : Bool) (xs : List (List C)) (q : List UInt8) : p47.ft ([V.c (C.sl 3 nl tt xs), V.c (C.str q)]) ([]) = (Tr.chk (isPsts xs) (Tr.chk (decide (xs.length < 4294967296)) (Tr.chk (decide (nl ≠ some true ∨ xs = [])) (Tr.leaf (R.out [V.c (C.sl 3 none false (psts (probeP (toPsts xs) q)))] []))))) := by kernel_rfl
noncomputable abbrev p51 : Par := par E sh (ctOf [(85, s85)]) 51 2 0
theorem t51 (nl : Option Bool) (tt : Bool) (xs : List (List C)) (q : List UInt8) : p51.ft ([V.c (C.sl 3 nl tt xs), V.c (C.str q)]) ([]) = (Tr.chk (isPsts xs) (Tr.chk (decide (xs.length < 4294967296)) (Tr.chk (decide (nl ≠ some true ∨ xs = [])) (Tr.leaf (R.out [V.c (C.sl 3 none false (psts (underP (toPsts xs) q)))] []))))) := by kernel_rfl
noncomputable abbrev p132 : Par := par E sh (ctOf []) 132 1 0
theorem t132 (tt : Bool) (xs : List (List C)) : p132.ft ([V.c (C.sl 3 (some false) tt xs)]) ([]) = (Tr.br false (Tr.leaf (R.out [V.c (C.sl 3 none false [])] [])) (Tr.chk true (Tr.chk true (Tr.chk (decide (0 + xs.length < 4294967296)) (Tr.chk true (Tr.leaf (R.out [V.c (C.sl 3 none false (List.take (0 + xs.length) (List.take 0 [] ++ xs)))] []))))))) := by kernel_rfl
theorem t132n (tt : Bool) : p132.ft ([V.c (C.sl 3 (some true) tt [])]) ([]) = (Tr.br true (Tr.leaf (R.out [V.c (C.sl 3 none false [])] [])) (Tr.chk true (Tr.chk true (Tr.chk true (Tr.chk true (Tr.leaf (R.out [V.c (C.sl 3 none false [])] []))))))) := by kernel_rfl
theorem t132c (tt : Bool) (x : List C) (xs : List (List C)) : p132.ft ([V.c (C.sl 3 none tt (x :: xs))]) ([]) = (Tr.br false (Tr.leaf (R.out [V.c (C.sl 3 none false [])] [])) (Tr.chk true (Tr.chk true (Tr.chk (decide (0 + (x :: xs).length < 4294967296)) (Tr.chk true (Tr.leaf (R.out [V.c (C.sl 3 none false (List.take (0 + (x :: xs).length) (List.take 0 [] ++ x :: xs)))] []))))))) := by kernel_rfl
end Go.Proofs.YtbilmkcdhodenaaDoor

end

/-
  Chapter 13 (posting): halves, within, Probe, Under: at each of the four predicates (written by a program).
-/
section
namespace Go.Proofs.YtbilmkcdhodenaaDoor
open Go Go.Ev

theorem beqL (p q : List UInt8) : (p == q) = decide (p = q) := by rw [Bool.eq_iff_iff]; simp
theorem begins_tree (p q : List UInt8) : (if (q.length : Int) ≤ (p.length : Int) then decide (List.take (q.length : Int).toNat p = q) else false) = begins p q := by
  unfold begins
  by_cases h : q.length ≤ p.length
  · rw [if_pos (by omega)]; simp [h]
  · rw [if_neg (by omega)]; simp [h]
theorem s86_ok : CSpecOk E 86 s86 := by
  intro a h cs vals h' he hc
  unfold s86 at he
  split at he <;> simp only [Option.some.injEq, Prod.mk.injEq, reduceCtorEq] at he
  rename_i p q
  obtain ⟨rfl, rfl, rfl⟩ := he
  exact (by refine call_of (E := E) (sh := sh) (ct := ctOf []) (na := 2) (m := 1) ctOf_nil rfl rfl rfl rfl rfl rfl ?_; rw [t86]; rfl)
theorem s86_ok' : CSpecOk E 92 s86 := by
  intro a h cs vals h' he hc
  unfold s86 at he
  split at he <;> simp only [Option.some.injEq, Prod.mk.injEq, reduceCtorEq] at he
  obtain ⟨rfl, rfl, rfl⟩ := he
  refine call_of (E := E) (sh := sh) (ct := ctOf []) (na := 2) (m := 1) ctOf_nil rfl rfl rfl rfl rfl rfl ?_; rw [t92]; rfl
theorem s87_ok : CSpecOk E 87 s87 := by
  intro a h cs vals h' he hc
  unfold s87 at he
  split at he <;> simp only [Option.some.injEq, Prod.mk.injEq, reduceCtorEq] at he
  rename_i p q
  obtain ⟨rfl, rfl, rfl⟩ := he
  exact (by refine call_of (E := E) (sh := sh) (ct := ctOf []) (na := 2) (m := 1) ctOf_nil rfl rfl rfl rfl rfl rfl ?_; rw [t87, fd_leaf, beqL])
theorem f137 (p q : List UInt8) : call E 137 [.c (.str p), .c (.str q)] [] = some ([V.b (begins p q)], []) := by
  refine call_of (E := E) (sh := sh) (ct := ctOf []) (na := 2) (m := 0) ctOf_nil rfl rfl rfl rfl rfl rfl ?_
  rw [t137]; simp only [ld_br, ld_chk', ld_leaf, fd_br, fd_chk', fd_leaf, decide_true, decide_eq_true_eq, if_true, Int.toNat_natCast, Int.natCast_nonneg, Int.ofNat_lt, Int.ofNat_le, Bool.false_eq_true, if_false, bne_iff_ne, beq_iff_eq, ne_eq, not_true_eq_false, not_false_eq_true, Bool.not_eq_true', decide_eq_false_iff_not, reduceCtorEq, rows_length, pcs_length, er_ok, er_ok', ep_ok, ep_ok', dr_er, dp_ep, isRows_rows, isPcs_pcs, toRows_rows, toPcs_pcs, rows_take, rows_drop, pcs_take, pcs_drop, rows_append, pcs_append, ints_length, isInts_ints, toInts_ints, ei_i, ei_ok, mk_headD, ints_take, ints_drop, ints_append, ints_snoc, ints_snoc', List.take_length, Nat.zero_add, Nat.le_refl, er_a, er_b, er_k, er_n, er_s, er_v, ep_a, ep_b, ep_hk, ep_hn, ep_hs, ep_wk, ep_wn, ep_ws, begins]
  by_cases h : q.length ≤ p.length
  · simp [h, beqL]
  · simp [h]
theorem f95 (p q : List UInt8) : call E 95 [.c (.str p), .c (.str q)] [] = some ([V.b (begins p q)], []) := by
  refine call_of (E := E) (sh := sh) (ct := ctOf []) (na := 2) (m := 0) ctOf_nil rfl rfl rfl rfl rfl rfl ?_
  rw [t95]; simp only [ld_br, ld_chk', ld_leaf, fd_br, fd_chk', fd_leaf, decide_true, decide_eq_true_eq, if_true, Int.toNat_natCast, Int.natCast_nonneg, Int.ofNat_lt, Int.ofNat_le, Bool.false_eq_true, if_false, bne_iff_ne, beq_iff_eq, ne_eq, not_true_eq_false, not_false_eq_true, Bool.not_eq_true', decide_eq_false_iff_not, reduceCtorEq, rows_length, pcs_length, er_ok, er_ok', ep_ok, ep_ok', dr_er, dp_ep, isRows_rows, isPcs_pcs, toRows_rows, toPcs_pcs, rows_take, rows_drop, pcs_take, pcs_drop, rows_append, pcs_append, ints_length, isInts_ints, toInts_ints, ei_i, ei_ok, mk_headD, ints_take, ints_drop, ints_append, ints_snoc, ints_snoc', List.take_length, Nat.zero_add, Nat.le_refl, er_a, er_b, er_k, er_n, er_s, er_v, ep_a, ep_b, ep_hk, ep_hn, ep_hs, ep_wk, ep_wn, ep_ws, begins]
  by_cases h : q.length ≤ p.length
  · simp [h, beqL]
  · simp [h]
theorem s137_ok : CSpecOk E 137 s137 := by
  intro a h cs vals h' he hc
  unfold s137 at he
  split at he <;> simp only [Option.some.injEq, Prod.mk.injEq, reduceCtorEq] at he
  obtain ⟨rfl, rfl, rfl⟩ := he
  exact f137 _ _
theorem s137_ok' : CSpecOk E 94 s137 := by
  intro a h cs vals h' he hc
  unfold s137 at he
  split at he <;> simp only [Option.some.injEq, Prod.mk.injEq, reduceCtorEq] at he
  obtain ⟨rfl, rfl, rfl⟩ := he
  refine call_of (E := E) (sh := sh) (ct := ctOf [(137, s137)]) (na := 2) (m := 0) (ctOf_cons s137_ok ctOf_nil) rfl rfl rfl rfl rfl rfl ?_; rw [t94]; rfl
theorem s93_ok : CSpecOk E 93 s93 := by
  intro a h cs vals h' he hc
  unfold s93 at he
  split at he <;> simp only [Option.some.injEq, Prod.mk.injEq, reduceCtorEq] at he
  obtain ⟨rfl, rfl, rfl⟩ := he
  exact (by refine call_of (E := E) (sh := sh) (ct := ctOf [(94, s137)]) (na := 2) (m := 1) (ctOf_cons s137_ok' ctOf_nil) rfl rfl rfl rfl rfl rfl ?_; rw [t93]; rfl)
theorem ct131 : (ctOf [(86, s86), (87, s87), (92, s86), (93, s93)]).ok E := ctOf_cons s86_ok (ctOf_cons s87_ok (ctOf_cons s86_ok' (ctOf_cons s93_ok ctOf_nil)))
theorem s131_ok : CSpecOk E 131 s131 := by
  intro a h cs vals h' he hc
  unfold s131 at he
  split at he <;> simp only [Option.some.injEq, Prod.mk.injEq, reduceCtorEq] at he
  · rename_i p q
    obtain ⟨rfl, rfl, rfl⟩ := he
    refine call_of (E := E) (sh := sh) (ct := ctOf [(86, s86), (87, s87), (92, s86), (93, s93)]) (na := 3) (m := 3) ct131 rfl rfl rfl rfl rfl rfl ?_
    rw [t131a]; simp only [ld_br, ld_chk', ld_leaf, fd_br, fd_chk', fd_leaf, decide_true, decide_eq_true_eq, if_true, Int.toNat_natCast, Int.natCast_nonneg, Int.ofNat_lt, Int.ofNat_le, Bool.false_eq_true, if_false, bne_iff_ne, beq_iff_eq, ne_eq, not_true_eq_false, not_false_eq_true, Bool.not_eq_true', decide_eq_false_iff_not, reduceCtorEq, rows_length, pcs_length, er_ok, er_ok', ep_ok, ep_ok', dr_er, dp_ep, isRows_rows, isPcs_pcs, toRows_rows, toPcs_pcs, rows_take, rows_drop, pcs_take, pcs_drop, rows_append, pcs_append, ints_length, isInts_ints, toInts_ints, ei_i, ei_ok, mk_headD, ints_take, ints_drop, ints_append, ints_snoc, ints_snoc', List.take_length, Nat.zero_add, Nat.le_refl, er_a, er_b, er_k, er_n, er_s, er_v, ep_a, ep_b, ep_hk, ep_hn, ep_hs, ep_wk, ep_wn, ep_ws]
    cases Op.bytesLess p q <;> simp
  · rename_i p q
    obtain ⟨rfl, rfl, rfl⟩ := he
    refine call_of (E := E) (sh := sh) (ct := ctOf [(86, s86), (87, s87), (92, s86), (93, s93)]) (na := 3) (m := 3) ct131 rfl rfl rfl rfl rfl rfl ?_
    rw [t131b]; simp only [ld_br, ld_chk', ld_leaf, fd_br, fd_chk', fd_leaf, decide_true, decide_eq_true_eq, if_true, Int.toNat_natCast, Int.natCast_nonneg, Int.ofNat_lt, Int.ofNat_le, Bool.false_eq_true, if_false, bne_iff_ne, beq_iff_eq, ne_eq, not_true_eq_false, not_false_eq_true, Bool.not_eq_true', decide_eq_false_iff_not, reduceCtorEq, rows_length, pcs_length, er_ok, er_ok', ep_ok, ep_ok', dr_er, dp_ep, isRows_rows, isPcs_pcs, toRows_rows, toPcs_pcs, rows_take, rows_drop, pcs_take, pcs_drop, rows_append, pcs_append, ints_length, isInts_ints, toInts_ints, ei_i, ei_ok, mk_headD, ints_take, ints_drop, ints_append, ints_snoc, ints_snoc', List.take_length, Nat.zero_add, Nat.le_refl, er_a, er_b, er_k, er_n, er_s, er_v, ep_a, ep_b, ep_hk, ep_hn, ep_hs, ep_wk, ep_wn, ep_ws]
    cases Op.bytesLess p q <;> simp
theorem ct130 : (ctOf [(86, s86), (92, s86), (131, s131)]).ok E := ctOf_cons s86_ok (ctOf_cons s86_ok' (ctOf_cons s131_ok ctOf_nil))
theorem s130_ok : CSpecOk E 130 s130 := by
  intro a h cs vals h' he hc
  unfold s130 at he
  split at he <;> simp only [Option.some.injEq, Prod.mk.injEq, reduceCtorEq] at he
  · rename_i p c k m q
    obtain ⟨rfl, rfl, rfl⟩ := he
    refine call_of (E := E) (sh := sh) (ct := ctOf [(86, s86), (92, s86), (131, s131)]) (na := 3) (m := 2) ct130 rfl rfl rfl rfl rfl rfl ?_
    rw [t130a]; simp only [ld_br, ld_chk', ld_leaf, fd_br, fd_chk', fd_leaf, decide_true, decide_eq_true_eq, if_true, Int.toNat_natCast, Int.natCast_nonneg, Int.ofNat_lt, Int.ofNat_le, Bool.false_eq_true, if_false, bne_iff_ne, beq_iff_eq, ne_eq, not_true_eq_false, not_false_eq_true, Bool.not_eq_true', decide_eq_false_iff_not, reduceCtorEq, rows_length, pcs_length, er_ok, er_ok', ep_ok, ep_ok', dr_er, dp_ep, isRows_rows, isPcs_pcs, toRows_rows, toPcs_pcs, rows_take, rows_drop, pcs_take, pcs_drop, rows_append, pcs_append, ints_length, isInts_ints, toInts_ints, ei_i, ei_ok, mk_headD, ints_take, ints_drop, ints_append, ints_snoc, ints_snoc', List.take_length, Nat.zero_add, Nat.le_refl, er_a, er_b, er_k, er_n, er_s, er_v, ep_a, ep_b, ep_hk, ep_hn, ep_hs, ep_wk, ep_wn, ep_ws]
    cases h : (Op.bytesLess p q) <;> simp_all [sgnI]
  · rename_i p c k m q
    obtain ⟨rfl, rfl, rfl⟩ := he
    refine call_of (E := E) (sh := sh) (ct := ctOf [(86, s86), (92, s86), (131, s131)]) (na := 3) (m := 2) ct130 rfl rfl rfl rfl rfl rfl ?_
    rw [t130b]; simp only [ld_br, ld_chk', ld_leaf, fd_br, fd_chk', fd_leaf, decide_true, decide_eq_true_eq, if_true, Int.toNat_natCast, Int.natCast_nonneg, Int.ofNat_lt, Int.ofNat_le, Bool.false_eq_true, if_false, bne_iff_ne, beq_iff_eq, ne_eq, not_true_eq_false, not_false_eq_true, Bool.not_eq_true', decide_eq_false_iff_not, reduceCtorEq, rows_length, pcs_length, er_ok, er_ok', ep_ok, ep_ok', dr_er, dp_ep, isRows_rows, isPcs_pcs, toRows_rows, toPcs_pcs, rows_take, rows_drop, pcs_take, pcs_drop, rows_append, pcs_append, ints_length, isInts_ints, toInts_ints, ei_i, ei_ok, mk_headD, ints_take, ints_drop, ints_append, ints_snoc, ints_snoc', List.take_length, Nat.zero_add, Nat.le_refl, er_a, er_b, er_k, er_n, er_s, er_v, ep_a, ep_b, ep_hk, ep_hn, ep_hs, ep_wk, ep_wn, ep_ws]
    cases h : (Op.bytesLess p q) <;> simp_all [sgnI]
  · rename_i p c k m q
    obtain ⟨rfl, rfl, rfl⟩ := he
    refine call_of (E := E) (sh := sh) (ct := ctOf [(86, s86), (92, s86), (131, s131)]) (na := 3) (m := 4) ct130 rfl rfl rfl rfl rfl rfl ?_
    rw [t130c]; simp only [ld_br, ld_chk', ld_leaf, fd_br, fd_chk', fd_leaf, decide_true, decide_eq_true_eq, if_true, Int.toNat_natCast, Int.natCast_nonneg, Int.ofNat_lt, Int.ofNat_le, Bool.false_eq_true, if_false, bne_iff_ne, beq_iff_eq, ne_eq, not_true_eq_false, not_false_eq_true, Bool.not_eq_true', decide_eq_false_iff_not, reduceCtorEq, rows_length, pcs_length, er_ok, er_ok', ep_ok, ep_ok', dr_er, dp_ep, isRows_rows, isPcs_pcs, toRows_rows, toPcs_pcs, rows_take, rows_drop, pcs_take, pcs_drop, rows_append, pcs_append, ints_length, isInts_ints, toInts_ints, ei_i, ei_ok, mk_headD, ints_take, ints_drop, ints_append, ints_snoc, ints_snoc', List.take_length, Nat.zero_add, Nat.le_refl, er_a, er_b, er_k, er_n, er_s, er_v, ep_a, ep_b, ep_hk, ep_hn, ep_hs, ep_wk, ep_wn, ep_ws]
    cases h : (Op.bytesLess p q || decide (p = q)) <;> simp_all [sgnI]
  · rename_i p c k m q
    obtain ⟨rfl, rfl, rfl⟩ := he
    refine call_of (E := E) (sh := sh) (ct := ctOf [(86, s86), (92, s86), (131, s131)]) (na := 3) (m := 4) ct130 rfl rfl rfl rfl rfl rfl ?_
    rw [t130d]; simp only [ld_br, ld_chk', ld_leaf, fd_br, fd_chk', fd_leaf, decide_true, decide_eq_true_eq, if_true, Int.toNat_natCast, Int.natCast_nonneg, Int.ofNat_lt, Int.ofNat_le, Bool.false_eq_true, if_false, bne_iff_ne, beq_iff_eq, ne_eq, not_true_eq_false, not_false_eq_true, Bool.not_eq_true', decide_eq_false_iff_not, reduceCtorEq, rows_length, pcs_length, er_ok, er_ok', ep_ok, ep_ok', dr_er, dp_ep, isRows_rows, isPcs_pcs, toRows_rows, toPcs_pcs, rows_take, rows_drop, pcs_take, pcs_drop, rows_append, pcs_append, ints_length, isInts_ints, toInts_ints, ei_i, ei_ok, mk_headD, ints_take, ints_drop, ints_append, ints_snoc, ints_snoc', List.take_length, Nat.zero_add, Nat.le_refl, er_a, er_b, er_k, er_n, er_s, er_v, ep_a, ep_b, ep_hk, ep_hn, ep_hs, ep_wk, ep_wn, ep_ws]
    cases h : (Op.bytesLess p q || begins p q) <;> simp_all [sgnI]
theorem sgn_lt (b : Bool) : (sgnI b < 0) = (b = true) := by cases b <;> simp [sgnI]
theorem sgn_zero (b : Bool) : (sgnI b == 0) = false := by cases b <;> rfl
theorem bsO_getD {l : List Pst} {i : Nat} (h : i < l.length) : l.getD i default = l[i] := by simp [List.getD_eq_getElem?_getD, h]
theorem ct129 : (ctOf [(130, s130)]).ok E := ctOf_cons s130_ok ctOf_nil
theorem f129a (l : List Pst) (nl : Option Bool) (tt : Bool) (q : List UInt8) (m : Int) (hl : l.length < 4294967296) : call E 129 [.c (.sl 3 nl tt (psts l)), V.i m, .fn 130 [.ptr 0 0 0 0]] [.box [.fn 86 [.ptr 1 0 0 0]], .box [.c (.str q)]] = some ([V.i (bsO (fun p => Op.bytesLess p q) l), V.b false], [.box [.fn 86 [.ptr 1 0 0 0]], .box [.c (.str q)]]) := by
  refine call_of (E := E) (sh := sh) (ct := ctOf [(130, s130)]) (na := 3) (m := 2) ct129 rfl rfl rfl rfl rfl rfl ?_
  rw [t129a, psts_length]
  obtain ⟨f, hf⟩ : ∃ f : List UInt8 → Bool, f = (fun p => Op.bytesLess p q) := ⟨_, rfl⟩
  have hf' : ∀ p, (Op.bytesLess p q) = f p := fun p => by rw [hf]
  rw [← hf]
  refine fd_post ct129 (by kernel_rfl) rfl (loops_post ct129 (b := b129a_0) (ι := Nat × Nat) (fun i => s129a_0 nl tt (psts l) q m l.length i.1 i.2) (fun i => i.1 ≤ i.2 ∧ i.2 ≤ l.length ∧ bsP f l (i.2 - i.1) i.1 i.2 = bsO f l) (fun i => i.2 - i.1) _ ?_ (0, l.length) ⟨Nat.zero_le _, Nat.le_refl _, rfl⟩)
  rintro ⟨lo, hi⟩ ⟨h1, h2, h3⟩
  dsimp only at h1 h2 h3 ⊢
  rw [t129a_0]
  by_cases hlt : lo < hi
  · have hm : (lo + hi) / 2 < l.length := by omega
    left
    rw [half_wrap (by omega)]
    simp only [psts_length, eo_ok, eo_ok', isPsts_psts, toPsts_psts, psts_take, psts_drop, psts_append, psts_snoc, psts_snoc', eo_p, eo_c, eo_k, eo_len, toPsts_length, dO_eo, eo_mk, ld_br, ld_chk', ld_leaf, fd_br, fd_chk', fd_leaf, decide_true, decide_eq_true_eq, if_true, Int.toNat_natCast, Int.natCast_nonneg, Int.ofNat_lt, Int.ofNat_le, Bool.false_eq_true, if_false, bne_iff_ne, beq_iff_eq, ne_eq, not_true_eq_false, not_false_eq_true, Bool.not_eq_true', decide_eq_false_iff_not, reduceCtorEq, rows_length, pcs_length, er_ok, er_ok', ep_ok, ep_ok', dr_er, dp_ep, isRows_rows, isPcs_pcs, toRows_rows, toPcs_pcs, rows_take, rows_drop, pcs_take, pcs_drop, rows_append, pcs_append, ints_length, isInts_ints, toInts_ints, ei_i, ei_ok, mk_headD, ints_take, ints_drop, ints_append, ints_snoc, ints_snoc', List.take_length, Nat.zero_add, Nat.le_refl, er_a, er_b, er_k, er_n, er_s, er_v, ep_a, ep_b, ep_hk, ep_hn, ep_hs, ep_wk, ep_wn, ep_ws, Int.ofNat_lt, hlt, hm, psts_getD hm, sgn_lt, hf']
    have e : hi - lo = (hi - lo - 1) + 1 := by omega
    rw [e, bsP, if_pos hlt, bsO_getD hm] at h3
    by_cases hb : f l[(lo + hi) / 2].p = true
    · rw [if_pos hb] at h3
      refine ⟨((lo + hi) / 2 + 1, hi), ⟨by dsimp only; omega, h2, ?_⟩, by dsimp only; omega, ?_⟩
      · rw [← h3]; exact bsP_fuel f l _ _ _ _ (by omega) (by omega)
      · rw [wrap_succ (by omega)]; simp only [hb, if_true]
    · rw [if_neg hb] at h3
      refine ⟨(lo, (lo + hi) / 2), ⟨by dsimp only; omega, by dsimp only; omega, ?_⟩, by dsimp only; omega, ?_⟩
      · rw [← h3]; exact bsP_fuel f l _ _ _ _ (by omega) (by omega)
      · rw [Bool.not_eq_true] at hb; simp only [hb, Bool.false_eq_true, if_false]
  · obtain rfl : lo = hi := by omega
    right
    rw [bsP_end f l _ (by omega)] at h3
    refine ⟨x129a_0x0 nl tt (psts l) q m l.length lo lo, by simp, ?_, by simp only [psts_length, eo_ok, eo_ok', isPsts_psts, toPsts_psts, psts_take, psts_drop, psts_append, psts_snoc, psts_snoc', eo_p, eo_c, eo_k, eo_len, toPsts_length, dO_eo, eo_mk, ld_br, ld_chk', ld_leaf, fd_br, fd_chk', fd_leaf, decide_true, decide_eq_true_eq, if_true, Int.toNat_natCast, Int.natCast_nonneg, Int.ofNat_lt, Int.ofNat_le, Bool.false_eq_true, if_false, bne_iff_ne, beq_iff_eq, ne_eq, not_true_eq_false, not_false_eq_true, Bool.not_eq_true', decide_eq_false_iff_not, reduceCtorEq, rows_length, pcs_length, er_ok, er_ok', ep_ok, ep_ok', dr_er, dp_ep, isRows_rows, isPcs_pcs, toRows_rows, toPcs_pcs, rows_take, rows_drop, pcs_take, pcs_drop, rows_append, pcs_append, ints_length, isInts_ints, toInts_ints, ei_i, ei_ok, mk_headD, ints_take, ints_drop, ints_append, ints_snoc, ints_snoc', List.take_length, Nat.zero_add, Nat.le_refl, er_a, er_b, er_k, er_n, er_s, er_v, ep_a, ep_b, ep_hk, ep_hn, ep_hs, ep_wk, ep_wn, ep_ws, Int.lt_irrefl]⟩
    rw [k129a_0x0]
    simp only [psts_length, eo_ok, eo_ok', isPsts_psts, toPsts_psts, psts_take, psts_drop, psts_append, psts_snoc, psts_snoc', eo_p, eo_c, eo_k, eo_len, toPsts_length, dO_eo, eo_mk, ld_br, ld_chk', ld_leaf, fd_br, fd_chk', fd_leaf, decide_true, decide_eq_true_eq, if_true, Int.toNat_natCast, Int.natCast_nonneg, Int.ofNat_lt, Int.ofNat_le, Bool.false_eq_true, if_false, bne_iff_ne, beq_iff_eq, ne_eq, not_true_eq_false, not_false_eq_true, Bool.not_eq_true', decide_eq_false_iff_not, reduceCtorEq, rows_length, pcs_length, er_ok, er_ok', ep_ok, ep_ok', dr_er, dp_ep, isRows_rows, isPcs_pcs, toRows_rows, toPcs_pcs, rows_take, rows_drop, pcs_take, pcs_drop, rows_append, pcs_append, ints_length, isInts_ints, toInts_ints, ei_i, ei_ok, mk_headD, ints_take, ints_drop, ints_append, ints_snoc, ints_snoc', List.take_length, Nat.zero_add, Nat.le_refl, er_a, er_b, er_k, er_n, er_s, er_v, ep_a, ep_b, ep_hk, ep_hn, ep_hs, ep_wk, ep_wn, ep_ws, Int.ofNat_lt, h3]
    by_cases hr : bsO f l < l.length
    · simp only [hr, if_true, psts_getD hr, psts_length, eo_ok, eo_ok', isPsts_psts, toPsts_psts, psts_take, psts_drop, psts_append, psts_snoc, psts_snoc', eo_p, eo_c, eo_k, eo_len, toPsts_length, dO_eo, eo_mk, ld_br, ld_chk', ld_leaf, fd_br, fd_chk', fd_leaf, decide_true, decide_eq_true_eq, if_true, Int.toNat_natCast, Int.natCast_nonneg, Int.ofNat_lt, Int.ofNat_le, Bool.false_eq_true, if_false, bne_iff_ne, beq_iff_eq, ne_eq, not_true_eq_false, not_false_eq_true, Bool.not_eq_true', decide_eq_false_iff_not, reduceCtorEq, rows_length, pcs_length, er_ok, er_ok', ep_ok, ep_ok', dr_er, dp_ep, isRows_rows, isPcs_pcs, toRows_rows, toPcs_pcs, rows_take, rows_drop, pcs_take, pcs_drop, rows_append, pcs_append, ints_length, isInts_ints, toInts_ints, ei_i, ei_ok, mk_headD, ints_take, ints_drop, ints_append, ints_snoc, ints_snoc', List.take_length, Nat.zero_add, Nat.le_refl, er_a, er_b, er_k, er_n, er_s, er_v, ep_a, ep_b, ep_hk, ep_hn, ep_hs, ep_wk, ep_wn, ep_ws, sgn_zero]
    · simp only [hr, if_false]
theorem f129b (l : List Pst) (nl : Option Bool) (tt : Bool) (q : List UInt8) (m : Int) (hl : l.length < 4294967296) : call E 129 [.c (.sl 3 nl tt (psts l)), V.i m, .fn 130 [.ptr 0 0 0 0]] [.box [.fn 92 [.ptr 1 0 0 0]], .box [.c (.str q)]] = some ([V.i (bsO (fun p => Op.bytesLess p q) l), V.b false], [.box [.fn 92 [.ptr 1 0 0 0]], .box [.c (.str q)]]) := by
  refine call_of (E := E) (sh := sh) (ct := ctOf [(130, s130)]) (na := 3) (m := 2) ct129 rfl rfl rfl rfl rfl rfl ?_
  rw [t129b, psts_length]
  obtain ⟨f, hf⟩ : ∃ f : List UInt8 → Bool, f = (fun p => Op.bytesLess p q) := ⟨_, rfl⟩
  have hf' : ∀ p, (Op.bytesLess p q) = f p := fun p => by rw [hf]
  rw [← hf]
  refine fd_post ct129 (by kernel_rfl) rfl (loops_post ct129 (b := b129b_0) (ι := Nat × Nat) (fun i => s129b_0 nl tt (psts l) q m l.length i.1 i.2) (fun i => i.1 ≤ i.2 ∧ i.2 ≤ l.length ∧ bsP f l (i.2 - i.1) i.1 i.2 = bsO f l) (fun i => i.2 - i.1) _ ?_ (0, l.length) ⟨Nat.zero_le _, Nat.le_refl _, rfl⟩)
  rintro ⟨lo, hi⟩ ⟨h1, h2, h3⟩
  dsimp only at h1 h2 h3 ⊢
  rw [t129b_0]
  by_cases hlt : lo < hi
  · have hm : (lo + hi) / 2 < l.length := by omega
    left
    rw [half_wrap (by omega)]
    simp only [psts_length, eo_ok, eo_ok', isPsts_psts, toPsts_psts, psts_take, psts_drop, psts_append, psts_snoc, psts_snoc', eo_p, eo_c, eo_k, eo_len, toPsts_length, dO_eo, eo_mk, ld_br, ld_chk', ld_leaf, fd_br, fd_chk', fd_leaf, decide_true, decide_eq_true_eq, if_true, Int.toNat_natCast, Int.natCast_nonneg, Int.ofNat_lt, Int.ofNat_le, Bool.false_eq_true, if_false, bne_iff_ne, beq_iff_eq, ne_eq, not_true_eq_false, not_false_eq_true, Bool.not_eq_true', decide_eq_false_iff_not, reduceCtorEq, rows_length, pcs_length, er_ok, er_ok', ep_ok, ep_ok', dr_er, dp_ep, isRows_rows, isPcs_pcs, toRows_rows, toPcs_pcs, rows_take, rows_drop, pcs_take, pcs_drop, rows_append, pcs_append, ints_length, isInts_ints, toInts_ints, ei_i, ei_ok, mk_headD, ints_take, ints_drop, ints_append, ints_snoc, ints_snoc', List.take_length, Nat.zero_add, Nat.le_refl, er_a, er_b, er_k, er_n, er_s, er_v, ep_a, ep_b, ep_hk, ep_hn, ep_hs, ep_wk, ep_wn, ep_ws, Int.ofNat_lt, hlt, hm, psts_getD hm, sgn_lt, hf']
    have e : hi - lo = (hi - lo - 1) + 1 := by omega
    rw [e, bsP, if_pos hlt, bsO_getD hm] at h3
    by_cases hb : f l[(lo + hi) / 2].p = true
    · rw [if_pos hb] at h3
      refine ⟨((lo + hi) / 2 + 1, hi), ⟨by dsimp only; omega, h2, ?_⟩, by dsimp only; omega, ?_⟩
      · rw [← h3]; exact bsP_fuel f l _ _ _ _ (by omega) (by omega)
      · rw [wrap_succ (by omega)]; simp only [hb, if_true]
    · rw [if_neg hb] at h3
      refine ⟨(lo, (lo + hi) / 2), ⟨by dsimp only; omega, by dsimp only; omega, ?_⟩, by dsimp only; omega, ?_⟩
      · rw [← h3]; exact bsP_fuel f l _ _ _ _ (by omega) (by omega)
      · rw [Bool.not_eq_true] at hb; simp only [hb, Bool.false_eq_true, if_false]
  · obtain rfl : lo = hi := by omega
    right
    rw [bsP_end f l _ (by omega)] at h3
    refine ⟨x129b_0x0 nl tt (psts l) q m l.length lo lo, by simp, ?_, by simp only [psts_length, eo_ok, eo_ok', isPsts_psts, toPsts_psts, psts_take, psts_drop, psts_append, psts_snoc, psts_snoc', eo_p, eo_c, eo_k, eo_len, toPsts_length, dO_eo, eo_mk, ld_br, ld_chk', ld_leaf, fd_br, fd_chk', fd_leaf, decide_true, decide_eq_true_eq, if_true, Int.toNat_natCast, Int.natCast_nonneg, Int.ofNat_lt, Int.ofNat_le, Bool.false_eq_true, if_false, bne_iff_ne, beq_iff_eq, ne_eq, not_true_eq_false, not_false_eq_true, Bool.not_eq_true', decide_eq_false_iff_not, reduceCtorEq, rows_length, pcs_length, er_ok, er_ok', ep_ok, ep_ok', dr_er, dp_ep, isRows_rows, isPcs_pcs, toRows_rows, toPcs_pcs, rows_take, rows_drop, pcs_take, pcs_drop, rows_append, pcs_append, ints_length, isInts_ints, toInts_ints, ei_i, ei_ok, mk_headD, ints_take, ints_drop, ints_append, ints_snoc, ints_snoc', List.take_length, Nat.zero_add, Nat.le_refl, er_a, er_b, er_k, er_n, er_s, er_v, ep_a, ep_b, ep_hk, ep_hn, ep_hs, ep_wk, ep_wn, ep_ws, Int.lt_irrefl]⟩
    rw [k129b_0x0]
    simp only [psts_length, eo_ok, eo_ok', isPsts_psts, toPsts_psts, psts_take, psts_drop, psts_append, psts_snoc, psts_snoc', eo_p, eo_c, eo_k, eo_len, toPsts_length, dO_eo, eo_mk, ld_br, ld_chk', ld_leaf, fd_br, fd_chk', fd_leaf, decide_true, decide_eq_true_eq, if_true, Int.toNat_natCast, Int.natCast_nonneg, Int.ofNat_lt, Int.ofNat_le, Bool.false_eq_true, if_false, bne_iff_ne, beq_iff_eq, ne_eq, not_true_eq_false, not_false_eq_true, Bool.not_eq_true', decide_eq_false_iff_not, reduceCtorEq, rows_length, pcs_length, er_ok, er_ok', ep_ok, ep_ok', dr_er, dp_ep, isRows_rows, isPcs_pcs, toRows_rows, toPcs_pcs, rows_take, rows_drop, pcs_take, pcs_drop, rows_append, pcs_append, ints_length, isInts_ints, toInts_ints, ei_i, ei_ok, mk_headD, ints_take, ints_drop, ints_append, ints_snoc, ints_snoc', List.take_length, Nat.zero_add, Nat.le_refl, er_a, er_b, er_k, er_n, er_s, er_v, ep_a, ep_b, ep_hk, ep_hn, ep_hs, ep_wk, ep_wn, ep_ws, Int.ofNat_lt, h3]
    by_cases hr : bsO f l < l.length
    · simp only [hr, if_true, psts_getD hr, psts_length, eo_ok, eo_ok', isPsts_psts, toPsts_psts, psts_take, psts_drop, psts_append, psts_snoc, psts_snoc', eo_p, eo_c, eo_k, eo_len, toPsts_length, dO_eo, eo_mk, ld_br, ld_chk', ld_leaf, fd_br, fd_chk', fd_leaf, decide_true, decide_eq_true_eq, if_true, Int.toNat_natCast, Int.natCast_nonneg, Int.ofNat_lt, Int.ofNat_le, Bool.false_eq_true, if_false, bne_iff_ne, beq_iff_eq, ne_eq, not_true_eq_false, not_false_eq_true, Bool.not_eq_true', decide_eq_false_iff_not, reduceCtorEq, rows_length, pcs_length, er_ok, er_ok', ep_ok, ep_ok', dr_er, dp_ep, isRows_rows, isPcs_pcs, toRows_rows, toPcs_pcs, rows_take, rows_drop, pcs_take, pcs_drop, rows_append, pcs_append, ints_length, isInts_ints, toInts_ints, ei_i, ei_ok, mk_headD, ints_take, ints_drop, ints_append, ints_snoc, ints_snoc', List.take_length, Nat.zero_add, Nat.le_refl, er_a, er_b, er_k, er_n, er_s, er_v, ep_a, ep_b, ep_hk, ep_hn, ep_hs, ep_wk, ep_wn, ep_ws, sgn_zero]
    · simp only [hr, if_false]
theorem f129c (l : List Pst) (nl : Option Bool) (tt : Bool) (q : List UInt8) (m : Int) (hl : l.length < 4294967296) : call E 129 [.c (.sl 3 nl tt (psts l)), V.i m, .fn 130 [.ptr 0 0 0 0]] [.box [.fn 131 [.ptr 1 0 0 0, .ptr 3 0 0 0]], .box [.fn 86 [.ptr 2 0 0 0]], .box [.c (.str q)], .box [.fn 87 [.ptr 2 0 0 0]]] = some ([V.i (bsO (fun p => Op.bytesLess p q || decide (p = q)) l), V.b false], [.box [.fn 131 [.ptr 1 0 0 0, .ptr 3 0 0 0]], .box [.fn 86 [.ptr 2 0 0 0]], .box [.c (.str q)], .box [.fn 87 [.ptr 2 0 0 0]]]) := by
  refine call_of (E := E) (sh := sh) (ct := ctOf [(130, s130)]) (na := 3) (m := 4) ct129 rfl rfl rfl rfl rfl rfl ?_
  rw [t129c, psts_length]
  obtain ⟨f, hf⟩ : ∃ f : List UInt8 → Bool, f = (fun p => Op.bytesLess p q || decide (p = q)) := ⟨_, rfl⟩
  have hf' : ∀ p, (Op.bytesLess p q || decide (p = q)) = f p := fun p => by rw [hf]
  rw [← hf]
  refine fd_post ct129 (by kernel_rfl) rfl (loops_post ct129 (b := b129c_0) (ι := Nat × Nat) (fun i => s129c_0 nl tt (psts l) q m l.length i.1 i.2) (fun i => i.1 ≤ i.2 ∧ i.2 ≤ l.length ∧ bsP f l (i.2 - i.1) i.1 i.2 = bsO f l) (fun i => i.2 - i.1) _ ?_ (0, l.length) ⟨Nat.zero_le _, Nat.le_refl _, rfl⟩)
  rintro ⟨lo, hi⟩ ⟨h1, h2, h3⟩
  dsimp only at h1 h2 h3 ⊢
  rw [t129c_0]
  by_cases hlt : lo < hi
  · have hm : (lo + hi) / 2 < l.length := by omega
    left
    rw [half_wrap (by omega)]
    simp only [psts_length, eo_ok, eo_ok', isPsts_psts, toPsts_psts, psts_take, psts_drop, psts_append, psts_snoc, psts_snoc', eo_p, eo_c, eo_k, eo_len, toPsts_length, dO_eo, eo_mk, ld_br, ld_chk', ld_leaf, fd_br, fd_chk', fd_leaf, decide_true, decide_eq_true_eq, if_true, Int.toNat_natCast, Int.natCast_nonneg, Int.ofNat_lt, Int.ofNat_le, Bool.false_eq_true, if_false, bne_iff_ne, beq_iff_eq, ne_eq, not_true_eq_false, not_false_eq_true, Bool.not_eq_true', decide_eq_false_iff_not, reduceCtorEq, rows_length, pcs_length, er_ok, er_ok', ep_ok, ep_ok', dr_er, dp_ep, isRows_rows, isPcs_pcs, toRows_rows, toPcs_pcs, rows_take, rows_drop, pcs_take, pcs_drop, rows_append, pcs_append, ints_length, isInts_ints, toInts_ints, ei_i, ei_ok, mk_headD, ints_take, ints_drop, ints_append, ints_snoc, ints_snoc', List.take_length, Nat.zero_add, Nat.le_refl, er_a, er_b, er_k, er_n, er_s, er_v, ep_a, ep_b, ep_hk, ep_hn, ep_hs, ep_wk, ep_wn, ep_ws, Int.ofNat_lt, hlt, hm, psts_getD hm, sgn_lt, hf']
    have e : hi - lo = (hi - lo - 1) + 1 := by omega
    rw [e, bsP, if_pos hlt, bsO_getD hm] at h3
    by_cases hb : f l[(lo + hi) / 2].p = true
    · rw [if_pos hb] at h3
      refine ⟨((lo + hi) / 2 + 1, hi), ⟨by dsimp only; omega, h2, ?_⟩, by dsimp only; omega, ?_⟩
      · rw [← h3]; exact bsP_fuel f l _ _ _ _ (by omega) (by omega)
      · rw [wrap_succ (by omega)]; simp only [hb, if_true]
    · rw [if_neg hb] at h3
      refine ⟨(lo, (lo + hi) / 2), ⟨by dsimp only; omega, by dsimp only; omega, ?_⟩, by dsimp only; omega, ?_⟩
      · rw [← h3]; exact bsP_fuel f l _ _ _ _ (by omega) (by omega)
      · rw [Bool.not_eq_true] at hb; simp only [hb, Bool.false_eq_true, if_false]
  · obtain rfl : lo = hi := by omega
    right
    rw [bsP_end f l _ (by omega)] at h3
    refine ⟨x129c_0x0 nl tt (psts l) q m l.length lo lo, by simp, ?_, by simp only [psts_length, eo_ok, eo_ok', isPsts_psts, toPsts_psts, psts_take, psts_drop, psts_append, psts_snoc, psts_snoc', eo_p, eo_c, eo_k, eo_len, toPsts_length, dO_eo, eo_mk, ld_br, ld_chk', ld_leaf, fd_br, fd_chk', fd_leaf, decide_true, decide_eq_true_eq, if_true, Int.toNat_natCast, Int.natCast_nonneg, Int.ofNat_lt, Int.ofNat_le, Bool.false_eq_true, if_false, bne_iff_ne, beq_iff_eq, ne_eq, not_true_eq_false, not_false_eq_true, Bool.not_eq_true', decide_eq_false_iff_not, reduceCtorEq, rows_length, pcs_length, er_ok, er_ok', ep_ok, ep_ok', dr_er, dp_ep, isRows_rows, isPcs_pcs, toRows_rows, toPcs_pcs, rows_take, rows_drop, pcs_take, pcs_drop, rows_append, pcs_append, ints_length, isInts_ints, toInts_ints, ei_i, ei_ok, mk_headD, ints_take, ints_drop, ints_append, ints_snoc, ints_snoc', List.take_length, Nat.zero_add, Nat.le_refl, er_a, er_b, er_k, er_n, er_s, er_v, ep_a, ep_b, ep_hk, ep_hn, ep_hs, ep_wk, ep_wn, ep_ws, Int.lt_irrefl]⟩
    rw [k129c_0x0]
    simp only [psts_length, eo_ok, eo_ok', isPsts_psts, toPsts_psts, psts_take, psts_drop, psts_append, psts_snoc, psts_snoc', eo_p, eo_c, eo_k, eo_len, toPsts_length, dO_eo, eo_mk, ld_br, ld_chk', ld_leaf, fd_br, fd_chk', fd_leaf, decide_true, decide_eq_true_eq, if_true, Int.toNat_natCast, Int.natCast_nonneg, Int.ofNat_lt, Int.ofNat_le, Bool.false_eq_true, if_false, bne_iff_ne, beq_iff_eq, ne_eq, not_true_eq_false, not_false_eq_true, Bool.not_eq_true', decide_eq_false_iff_not, reduceCtorEq, rows_length, pcs_length, er_ok, er_ok', ep_ok, ep_ok', dr_er, dp_ep, isRows_rows, isPcs_pcs, toRows_rows, toPcs_pcs, rows_take, rows_drop, pcs_take, pcs_drop, rows_append, pcs_append, ints_length, isInts_ints, toInts_ints, ei_i, ei_ok, mk_headD, ints_take, ints_drop, ints_append, ints_snoc, ints_snoc', List.take_length, Nat.zero_add, Nat.le_refl, er_a, er_b, er_k, er_n, er_s, er_v, ep_a, ep_b, ep_hk, ep_hn, ep_hs, ep_wk, ep_wn, ep_ws, Int.ofNat_lt, h3]
    by_cases hr : bsO f l < l.length
    · simp only [hr, if_true, psts_getD hr, psts_length, eo_ok, eo_ok', isPsts_psts, toPsts_psts, psts_take, psts_drop, psts_append, psts_snoc, psts_snoc', eo_p, eo_c, eo_k, eo_len, toPsts_length, dO_eo, eo_mk, ld_br, ld_chk', ld_leaf, fd_br, fd_chk', fd_leaf, decide_true, decide_eq_true_eq, if_true, Int.toNat_natCast, Int.natCast_nonneg, Int.ofNat_lt, Int.ofNat_le, Bool.false_eq_true, if_false, bne_iff_ne, beq_iff_eq, ne_eq, not_true_eq_false, not_false_eq_true, Bool.not_eq_true', decide_eq_false_iff_not, reduceCtorEq, rows_length, pcs_length, er_ok, er_ok', ep_ok, ep_ok', dr_er, dp_ep, isRows_rows, isPcs_pcs, toRows_rows, toPcs_pcs, rows_take, rows_drop, pcs_take, pcs_drop, rows_append, pcs_append, ints_length, isInts_ints, toInts_ints, ei_i, ei_ok, mk_headD, ints_take, ints_drop, ints_append, ints_snoc, ints_snoc', List.take_length, Nat.zero_add, Nat.le_refl, er_a, er_b, er_k, er_n, er_s, er_v, ep_a, ep_b, ep_hk, ep_hn, ep_hs, ep_wk, ep_wn, ep_ws, sgn_zero]
    · simp only [hr, if_false]
theorem f129d (l : List Pst) (nl : Option Bool) (tt : Bool) (q : List UInt8) (m : Int) (hl : l.length < 4294967296) : call E 129 [.c (.sl 3 nl tt (psts l)), V.i m, .fn 130 [.ptr 0 0 0 0]] [.box [.fn 131 [.ptr 1 0 0 0, .ptr 3 0 0 0]], .box [.fn 92 [.ptr 2 0 0 0]], .box [.c (.str q)], .box [.fn 93 [.ptr 2 0 0 0]]] = some ([V.i (bsO (fun p => Op.bytesLess p q || begins p q) l), V.b false], [.box [.fn 131 [.ptr 1 0 0 0, .ptr 3 0 0 0]], .box [.fn 92 [.ptr 2 0 0 0]], .box [.c (.str q)], .box [.fn 93 [.ptr 2 0 0 0]]]) := by
  refine call_of (E := E) (sh := sh) (ct := ctOf [(130, s130)]) (na := 3) (m := 4) ct129 rfl rfl rfl rfl rfl rfl ?_
  rw [t129d, psts_length]
  obtain ⟨f, hf⟩ : ∃ f : List UInt8 → Bool, f = (fun p => Op.bytesLess p q || begins p q) := ⟨_, rfl⟩
  have hf' : ∀ p, (Op.bytesLess p q || begins p q) = f p := fun p => by rw [hf]
  rw [← hf]
  refine fd_post ct129 (by kernel_rfl) rfl (loops_post ct129 (b := b129d_0) (ι := Nat × Nat) (fun i => s129d_0 nl tt (psts l) q m l.length i.1 i.2) (fun i => i.1 ≤ i.2 ∧ i.2 ≤ l.length ∧ bsP f l (i.2 - i.1) i.1 i.2 = bsO f l) (fun i => i.2 - i.1) _ ?_ (0, l.length) ⟨Nat.zero_le _, Nat.le_refl _, rfl⟩)
  rintro ⟨lo, hi⟩ ⟨h1, h2, h3⟩
  dsimp only at h1 h2 h3 ⊢
  rw [t129d_0]
  by_cases hlt : lo < hi
  · have hm : (lo + hi) / 2 < l.length := by omega
    left
    rw [half_wrap (by omega)]
    simp only [psts_length, eo_ok, eo_ok', isPsts_psts, toPsts_psts, psts_take, psts_drop, psts_append, psts_snoc, psts_snoc', eo_p, eo_c, eo_k, eo_len, toPsts_length, dO_eo, eo_mk, ld_br, ld_chk', ld_leaf, fd_br, fd_chk', fd_leaf, decide_true, decide_eq_true_eq, if_true, Int.toNat_natCast, Int.natCast_nonneg, Int.ofNat_lt, Int.ofNat_le, Bool.false_eq_true, if_false, bne_iff_ne, beq_iff_eq, ne_eq, not_true_eq_false, not_false_eq_true, Bool.not_eq_true', decide_eq_false_iff_not, reduceCtorEq, rows_length, pcs_length, er_ok, er_ok', ep_ok, ep_ok', dr_er, dp_ep, isRows_rows, isPcs_pcs, toRows_rows, toPcs_pcs, rows_take, rows_drop, pcs_take, pcs_drop, rows_append, pcs_append, ints_length, isInts_ints, toInts_ints, ei_i, ei_ok, mk_headD, ints_take, ints_drop, ints_append, ints_snoc, ints_snoc', List.take_length, Nat.zero_add, Nat.le_refl, er_a, er_b, er_k, er_n, er_s, er_v, ep_a, ep_b, ep_hk, ep_hn, ep_hs, ep_wk, ep_wn, ep_ws, Int.ofNat_lt, hlt, hm, psts_getD hm, sgn_lt, hf']
    have e : hi - lo = (hi - lo - 1) + 1 := by omega
    rw [e, bsP, if_pos hlt, bsO_getD hm] at h3
    by_cases hb : f l[(lo + hi) / 2].p = true
    · rw [if_pos hb] at h3
      refine ⟨((lo + hi) / 2 + 1, hi), ⟨by dsimp only; omega, h2, ?_⟩, by dsimp only; omega, ?_⟩
      · rw [← h3]; exact bsP_fuel f l _ _ _ _ (by omega) (by omega)
      · rw [wrap_succ (by omega)]; simp only [hb, if_true]
    · rw [if_neg hb] at h3
      refine ⟨(lo, (lo + hi) / 2), ⟨by dsimp only; omega, by dsimp only; omega, ?_⟩, by dsimp only; omega, ?_⟩
      · rw [← h3]; exact bsP_fuel f l _ _ _ _ (by omega) (by omega)
      · rw [Bool.not_eq_true] at hb; simp only [hb, Bool.false_eq_true, if_false]
  · obtain rfl : lo = hi := by omega
    right
    rw [bsP_end f l _ (by omega)] at h3
    refine ⟨x129d_0x0 nl tt (psts l) q m l.length lo lo, by simp, ?_, by simp only [psts_length, eo_ok, eo_ok', isPsts_psts, toPsts_psts, psts_take, psts_drop, psts_append, psts_snoc, psts_snoc', eo_p, eo_c, eo_k, eo_len, toPsts_length, dO_eo, eo_mk, ld_br, ld_chk', ld_leaf, fd_br, fd_chk', fd_leaf, decide_true, decide_eq_true_eq, if_true, Int.toNat_natCast, Int.natCast_nonneg, Int.ofNat_lt, Int.ofNat_le, Bool.false_eq_true, if_false, bne_iff_ne, beq_iff_eq, ne_eq, not_true_eq_false, not_false_eq_true, Bool.not_eq_true', decide_eq_false_iff_not, reduceCtorEq, rows_length, pcs_length, er_ok, er_ok', ep_ok, ep_ok', dr_er, dp_ep, isRows_rows, isPcs_pcs, toRows_rows, toPcs_pcs, rows_take, rows_drop, pcs_take, pcs_drop, rows_append, pcs_append, ints_length, isInts_ints, toInts_ints, ei_i, ei_ok, mk_headD, ints_take, ints_drop, ints_append, ints_snoc, ints_snoc', List.take_length, Nat.zero_add, Nat.le_refl, er_a, er_b, er_k, er_n, er_s, er_v, ep_a, ep_b, ep_hk, ep_hn, ep_hs, ep_wk, ep_wn, ep_ws, Int.lt_irrefl]⟩
    rw [k129d_0x0]
    simp only [psts_length, eo_ok, eo_ok', isPsts_psts, toPsts_psts, psts_take, psts_drop, psts_append, psts_snoc, psts_snoc', eo_p, eo_c, eo_k, eo_len, toPsts_length, dO_eo, eo_mk, ld_br, ld_chk', ld_leaf, fd_br, fd_chk', fd_leaf, decide_true, decide_eq_true_eq, if_true, Int.toNat_natCast, Int.natCast_nonneg, Int.ofNat_lt, Int.ofNat_le, Bool.false_eq_true, if_false, bne_iff_ne, beq_iff_eq, ne_eq, not_true_eq_false, not_false_eq_true, Bool.not_eq_true', decide_eq_false_iff_not, reduceCtorEq, rows_length, pcs_length, er_ok, er_ok', ep_ok, ep_ok', dr_er, dp_ep, isRows_rows, isPcs_pcs, toRows_rows, toPcs_pcs, rows_take, rows_drop, pcs_take, pcs_drop, rows_append, pcs_append, ints_length, isInts_ints, toInts_ints, ei_i, ei_ok, mk_headD, ints_take, ints_drop, ints_append, ints_snoc, ints_snoc', List.take_length, Nat.zero_add, Nat.le_refl, er_a, er_b, er_k, er_n, er_s, er_v, ep_a, ep_b, ep_hk, ep_hn, ep_hs, ep_wk, ep_wn, ep_ws, Int.ofNat_lt, h3]
    by_cases hr : bsO f l < l.length
    · simp only [hr, if_true, psts_getD hr, psts_length, eo_ok, eo_ok', isPsts_psts, toPsts_psts, psts_take, psts_drop, psts_append, psts_snoc, psts_snoc', eo_p, eo_c, eo_k, eo_len, toPsts_length, dO_eo, eo_mk, ld_br, ld_chk', ld_leaf, fd_br, fd_chk', fd_leaf, decide_true, decide_eq_true_eq, if_true, Int.toNat_natCast, Int.natCast_nonneg, Int.ofNat_lt, Int.ofNat_le, Bool.false_eq_true, if_false, bne_iff_ne, beq_iff_eq, ne_eq, not_true_eq_false, not_false_eq_true, Bool.not_eq_true', decide_eq_false_iff_not, reduceCtorEq, rows_length, pcs_length, er_ok, er_ok', ep_ok, ep_ok', dr_er, dp_ep, isRows_rows, isPcs_pcs, toRows_rows, toPcs_pcs, rows_take, rows_drop, pcs_take, pcs_drop, rows_append, pcs_append, ints_length, isInts_ints, toInts_ints, ei_i, ei_ok, mk_headD, ints_take, ints_drop, ints_append, ints_snoc, ints_snoc', List.take_length, Nat.zero_add, Nat.le_refl, er_a, er_b, er_k, er_n, er_s, er_v, ep_a, ep_b, ep_hk, ep_hn, ep_hs, ep_wk, ep_wn, ep_ws, sgn_zero]
    · simp only [hr, if_false]
theorem s129_ok : CSpecOk E 129 s129 := by
  intro a h cs vals h' he hc
  unfold s129 at he
  split at he <;> simp only [Option.some.injEq, Prod.mk.injEq, reduceCtorEq] at he
  · rename_i nl tt xs m q
    obtain ⟨rfl, rfl, rfl⟩ := he
    simp only [allT, Bool.and_true, Bool.and_eq_true, decide_eq_true_eq] at hc
    obtain ⟨l, rfl⟩ := psts_ex hc.1
    rw [toPsts_psts]
    exact f129a l nl tt q m (by simpa using hc.2)
  · rename_i nl tt xs m q
    obtain ⟨rfl, rfl, rfl⟩ := he
    simp only [allT, Bool.and_true, Bool.and_eq_true, decide_eq_true_eq] at hc
    obtain ⟨l, rfl⟩ := psts_ex hc.1
    rw [toPsts_psts]
    exact f129b l nl tt q m (by simpa using hc.2)
  · rename_i nl tt xs m q
    obtain ⟨rfl, rfl, rfl⟩ := he
    simp only [allT, Bool.and_true, Bool.and_eq_true, decide_eq_true_eq] at hc
    obtain ⟨l, rfl⟩ := psts_ex hc.1
    rw [toPsts_psts]
    exact f129c l nl tt q m (by simpa using hc.2)
  · rename_i nl tt xs m q
    obtain ⟨rfl, rfl, rfl⟩ := he
    simp only [allT, Bool.and_true, Bool.and_eq_true, decide_eq_true_eq] at hc
    obtain ⟨l, rfl⟩ := psts_ex hc.1
    rw [toPsts_psts]
    exact f129d l nl tt q m (by simpa using hc.2)
theorem s128_ok : CSpecOk E 128 s128 := by
  intro a h cs vals h' he hc
  unfold s128 at he
  split at he <;> simp only [Option.some.injEq, Prod.mk.injEq, reduceCtorEq] at he
  · rename_i q nl tt xs
    obtain ⟨rfl, rfl, rfl⟩ := he
    simp only [allT, Bool.and_true, Bool.and_eq_true, decide_eq_true_eq] at hc
    refine call_of (E := E) (sh := sh) (ct := ctOf [(129, s129)]) (na := 2) (m := 2) (ctOf_cons s129_ok ctOf_nil) rfl rfl rfl rfl rfl rfl ?_
    rw [t128a]; simp only [ld_br, ld_chk', ld_leaf, fd_br, fd_chk', fd_leaf, decide_true, decide_eq_true_eq, if_true, Int.toNat_natCast, Int.natCast_nonneg, Int.ofNat_lt, Int.ofNat_le, Bool.false_eq_true, if_false, bne_iff_ne, beq_iff_eq, ne_eq, not_true_eq_false, not_false_eq_true, Bool.not_eq_true', decide_eq_false_iff_not, reduceCtorEq, rows_length, pcs_length, er_ok, er_ok', ep_ok, ep_ok', dr_er, dp_ep, isRows_rows, isPcs_pcs, toRows_rows, toPcs_pcs, rows_take, rows_drop, pcs_take, pcs_drop, rows_append, pcs_append, ints_length, isInts_ints, toInts_ints, ei_i, ei_ok, mk_headD, ints_take, ints_drop, ints_append, ints_snoc, ints_snoc', List.take_length, Nat.zero_add, Nat.le_refl, er_a, er_b, er_k, er_n, er_s, er_v, ep_a, ep_b, ep_hk, ep_hn, ep_hs, ep_wk, ep_wn, ep_ws, hc.1, hc.2]
  · rename_i q nl tt xs
    obtain ⟨rfl, rfl, rfl⟩ := he
    simp only [allT, Bool.and_true, Bool.and_eq_true, decide_eq_true_eq] at hc
    refine call_of (E := E) (sh := sh) (ct := ctOf [(129, s129)]) (na := 2) (m := 2) (ctOf_cons s129_ok ctOf_nil) rfl rfl rfl rfl rfl rfl ?_
    rw [t128b]; simp only [ld_br, ld_chk', ld_leaf, fd_br, fd_chk', fd_leaf, decide_true, decide_eq_true_eq, if_true, Int.toNat_natCast, Int.natCast_nonneg, Int.ofNat_lt, Int.ofNat_le, Bool.false_eq_true, if_false, bne_iff_ne, beq_iff_eq, ne_eq, not_true_eq_false, not_false_eq_true, Bool.not_eq_true', decide_eq_false_iff_not, reduceCtorEq, rows_length, pcs_length, er_ok, er_ok', ep_ok, ep_ok', dr_er, dp_ep, isRows_rows, isPcs_pcs, toRows_rows, toPcs_pcs, rows_take, rows_drop, pcs_take, pcs_drop, rows_append, pcs_append, ints_length, isInts_ints, toInts_ints, ei_i, ei_ok, mk_headD, ints_take, ints_drop, ints_append, ints_snoc, ints_snoc', List.take_length, Nat.zero_add, Nat.le_refl, er_a, er_b, er_k, er_n, er_s, er_v, ep_a, ep_b, ep_hk, ep_hn, ep_hs, ep_wk, ep_wn, ep_ws, hc.1, hc.2]
  · rename_i q nl tt xs
    obtain ⟨rfl, rfl, rfl⟩ := he
    simp only [allT, Bool.and_true, Bool.and_eq_true, decide_eq_true_eq] at hc
    refine call_of (E := E) (sh := sh) (ct := ctOf [(129, s129)]) (na := 2) (m := 4) (ctOf_cons s129_ok ctOf_nil) rfl rfl rfl rfl rfl rfl ?_
    rw [t128c]; simp only [ld_br, ld_chk', ld_leaf, fd_br, fd_chk', fd_leaf, decide_true, decide_eq_true_eq, if_true, Int.toNat_natCast, Int.natCast_nonneg, Int.ofNat_lt, Int.ofNat_le, Bool.false_eq_true, if_false, bne_iff_ne, beq_iff_eq, ne_eq, not_true_eq_false, not_false_eq_true, Bool.not_eq_true', decide_eq_false_iff_not, reduceCtorEq, rows_length, pcs_length, er_ok, er_ok', ep_ok, ep_ok', dr_er, dp_ep, isRows_rows, isPcs_pcs, toRows_rows, toPcs_pcs, rows_take, rows_drop, pcs_take, pcs_drop, rows_append, pcs_append, ints_length, isInts_ints, toInts_ints, ei_i, ei_ok, mk_headD, ints_take, ints_drop, ints_append, ints_snoc, ints_snoc', List.take_length, Nat.zero_add, Nat.le_refl, er_a, er_b, er_k, er_n, er_s, er_v, ep_a, ep_b, ep_hk, ep_hn, ep_hs, ep_wk, ep_wn, ep_ws, hc.1, hc.2]
  · rename_i q nl tt xs
    obtain ⟨rfl, rfl, rfl⟩ := he
    simp only [allT, Bool.and_true, Bool.and_eq_true, decide_eq_true_eq] at hc
    refine call_of (E := E) (sh := sh) (ct := ctOf [(129, s129)]) (na := 2) (m := 4) (ctOf_cons s129_ok ctOf_nil) rfl rfl rfl rfl rfl rfl ?_
    rw [t128d]; simp only [ld_br, ld_chk', ld_leaf, fd_br, fd_chk', fd_leaf, decide_true, decide_eq_true_eq, if_true, Int.toNat_natCast, Int.natCast_nonneg, Int.ofNat_lt, Int.ofNat_le, Bool.false_eq_true, if_false, bne_iff_ne, beq_iff_eq, ne_eq, not_true_eq_false, not_false_eq_true, Bool.not_eq_true', decide_eq_false_iff_not, reduceCtorEq, rows_length, pcs_length, er_ok, er_ok', ep_ok, ep_ok', dr_er, dp_ep, isRows_rows, isPcs_pcs, toRows_rows, toPcs_pcs, rows_take, rows_drop, pcs_take, pcs_drop, rows_append, pcs_append, ints_length, isInts_ints, toInts_ints, ei_i, ei_ok, mk_headD, ints_take, ints_drop, ints_append, ints_snoc, ints_snoc', List.take_length, Nat.zero_add, Nat.le_refl, er_a, er_b, er_k, er_n, er_s, er_v, ep_a, ep_b, ep_hk, ep_hn, ep_hs, ep_wk, ep_wn, ep_ws, hc.1, hc.2]
theorem s132_ok : CSpecOk E 132 s132 := by
  intro a h cs vals h' he hc
  unfold s132 at he
  split at he <;> simp only [Option.some.injEq, Prod.mk.injEq, reduceCtorEq] at he
  rename_i nl tt xs
  obtain ⟨rfl, rfl, rfl⟩ := he
  simp only [allT, Bool.and_true, Bool.and_eq_true, decide_eq_true_eq] at hc
  obtain ⟨hc, hn⟩ := hc
  have some_false : ∀ tt, call E 132 [.c (.sl 3 (some false) tt xs)] [] = some ([.c (.sl 3 none false xs)], []) := fun tt => by
    refine call_of (E := E) (sh := sh) (ct := ctOf []) (na := 1) (m := 0) ctOf_nil rfl rfl rfl rfl rfl rfl ?_
    rw [t132]
    simp [fd_br, fd_chk', fd_leaf, hc]
  match nl, xs, hc, hn, some_false with
  | some false, xs, hc, hn, sf => exact sf tt
  | some true, xs, hc, hn, sf =>
    obtain rfl : xs = [] := by simpa using hn
    refine call_of (E := E) (sh := sh) (ct := ctOf []) (na := 1) (m := 0) ctOf_nil rfl rfl rfl rfl rfl rfl ?_
    rw [t132n]; rfl
  | none, [], hc, hn, sf =>
    refine call_split' (E := E) (a1 := [.c (.sl 3 (some true) true [])]) (a2 := [.c (.sl 3 (some false) tt [])]) rfl rfl rfl rfl rfl ?_ (sf tt) rfl
    refine call_of (E := E) (sh := sh) (ct := ctOf []) (na := 1) (m := 0) ctOf_nil rfl rfl rfl rfl rfl rfl ?_
    rw [t132n]; rfl
  | none, x :: r, hc, hn, sf =>
    refine call_of (E := E) (sh := sh) (ct := ctOf []) (na := 1) (m := 0) ctOf_nil rfl rfl rfl rfl rfl rfl ?_
    rw [t132c]
    simp only [List.length_cons] at hc
    simp [fd_br, fd_chk', fd_leaf, hc]
theorem ct85 : (ctOf [(43, s43), (128, s128), (132, s132)]).ok E := ctOf_cons s43_ok (ctOf_cons s128_ok (ctOf_cons s132_ok ctOf_nil))
theorem drop_take_len {l : List Pst} (i j : Nat) : ((l.take j).drop i).length ≤ l.length := by simp; omega
theorem f85a (l : List Pst) (nl : Option Bool) (tt : Bool) (q : List UInt8) (hl : l.length < 4294967296) (hn : nl ≠ some true ∨ l = []) : call E 85 [.c (.sl 3 nl tt (psts l)), .fn 86 [.ptr 0 0 0 0], .fn 87 [.ptr 0 0 0 0]] [.box [.c (.str q)]] = some ([.c (.sl 3 none false (psts (probeP l q)))], [.box [.c (.str q)]]) := by
  refine call_of (E := E) (sh := sh) (ct := ctOf [(43, s43), (128, s128), (132, s132)]) (na := 3) (m := 1) ct85 rfl rfl rfl rfl rfl rfl ?_
  rw [t85a]
  simp only [psts_length, eo_ok, eo_ok', isPsts_psts, toPsts_psts, psts_take, psts_drop, psts_append, psts_snoc, psts_snoc', eo_p, eo_c, eo_k, eo_len, toPsts_length, dO_eo, eo_mk, ld_br, ld_chk', ld_leaf, fd_br, fd_chk', fd_leaf, decide_true, decide_eq_true_eq, if_true, Int.toNat_natCast, Int.natCast_nonneg, Int.ofNat_lt, Int.ofNat_le, Bool.false_eq_true, if_false, bne_iff_ne, beq_iff_eq, ne_eq, not_true_eq_false, not_false_eq_true, Bool.not_eq_true', decide_eq_false_iff_not, reduceCtorEq, rows_length, pcs_length, er_ok, er_ok', ep_ok, ep_ok', dr_er, dp_ep, isRows_rows, isPcs_pcs, toRows_rows, toPcs_pcs, rows_take, rows_drop, pcs_take, pcs_drop, rows_append, pcs_append, ints_length, isInts_ints, toInts_ints, ei_i, ei_ok, mk_headD, ints_take, ints_drop, ints_append, ints_snoc, ints_snoc', List.take_length, Nat.zero_add, Nat.le_refl, er_a, er_b, er_k, er_n, er_s, er_v, ep_a, ep_b, ep_hk, ep_hn, ep_hs, ep_wk, ep_wn, ep_ws, hl, checkP_ne]
  rw [← probe_within]
  by_cases h : okP l = true
  · have h1 := from_le_to (fun p => Op.bytesLess p q) (fun p => decide (p = q)) (down_lt h q) (down_eq h q)
    have h2 := bsO_le (fun p => Op.bytesLess p q || decide (p = q)) l
    have h3 := drop_take_len (l := l) (bsO (fun p => Op.bytesLess p q) l) (bsO (fun p => Op.bytesLess p q || decide (p = q)) l)
    have h4 : (l.take (bsO (fun p => Op.bytesLess p q || decide (p = q)) l)).drop (bsO (fun p => Op.bytesLess p q) l) = withinP l (fun p => Op.bytesLess p q) (fun p => decide (p = q)) := by unfold withinP; rw [if_pos h]
    have h5 : nl ≠ some true ∨ psts ((l.take (bsO (fun p => Op.bytesLess p q || decide (p = q)) l)).drop (bsO (fun p => Op.bytesLess p q) l)) = [] := by
      rcases hn with hn | rfl
      · exact .inl hn
      · right; simp [psts]
    have h6 : ((l.take (bsO (fun p => Op.bytesLess p q || decide (p = q)) l)).drop (bsO (fun p => Op.bytesLess p q) l)).length < 4294967296 := by omega
    simp only [h, Bool.true_eq_false, if_false, h1, h2, if_true, h4]
    rw [h4] at h5 h6
    rw [if_pos h6, if_pos h5]
  · have h' : okP l = false := by simpa using h
    simp only [h', if_true]
    unfold withinP
    rw [if_neg h]; rfl
theorem f85b (l : List Pst) (nl : Option Bool) (tt : Bool) (q : List UInt8) (hl : l.length < 4294967296) (hn : nl ≠ some true ∨ l = []) : call E 85 [.c (.sl 3 nl tt (psts l)), .fn 92 [.ptr 0 0 0 0], .fn 93 [.ptr 0 0 0 0]] [.box [.c (.str q)]] = some ([.c (.sl 3 none false (psts (underP l q)))], [.box [.c (.str q)]]) := by
  refine call_of (E := E) (sh := sh) (ct := ctOf [(43, s43), (128, s128), (132, s132)]) (na := 3) (m := 1) ct85 rfl rfl rfl rfl rfl rfl ?_
  rw [t85b]
  simp only [psts_length, eo_ok, eo_ok', isPsts_psts, toPsts_psts, psts_take, psts_drop, psts_append, psts_snoc, psts_snoc', eo_p, eo_c, eo_k, eo_len, toPsts_length, dO_eo, eo_mk, ld_br, ld_chk', ld_leaf, fd_br, fd_chk', fd_leaf, decide_true, decide_eq_true_eq, if_true, Int.toNat_natCast, Int.natCast_nonneg, Int.ofNat_lt, Int.ofNat_le, Bool.false_eq_true, if_false, bne_iff_ne, beq_iff_eq, ne_eq, not_true_eq_false, not_false_eq_true, Bool.not_eq_true', decide_eq_false_iff_not, reduceCtorEq, rows_length, pcs_length, er_ok, er_ok', ep_ok, ep_ok', dr_er, dp_ep, isRows_rows, isPcs_pcs, toRows_rows, toPcs_pcs, rows_take, rows_drop, pcs_take, pcs_drop, rows_append, pcs_append, ints_length, isInts_ints, toInts_ints, ei_i, ei_ok, mk_headD, ints_take, ints_drop, ints_append, ints_snoc, ints_snoc', List.take_length, Nat.zero_add, Nat.le_refl, er_a, er_b, er_k, er_n, er_s, er_v, ep_a, ep_b, ep_hk, ep_hn, ep_hs, ep_wk, ep_wn, ep_ws, hl, checkP_ne]
  rw [← under_within]
  by_cases h : okP l = true
  · have h1 := from_le_to (fun p => Op.bytesLess p q) (fun p => begins p q) (down_lt h q) (down_begins h q)
    have h2 := bsO_le (fun p => Op.bytesLess p q || begins p q) l
    have h3 := drop_take_len (l := l) (bsO (fun p => Op.bytesLess p q) l) (bsO (fun p => Op.bytesLess p q || begins p q) l)
    have h4 : (l.take (bsO (fun p => Op.bytesLess p q || begins p q) l)).drop (bsO (fun p => Op.bytesLess p q) l) = withinP l (fun p => Op.bytesLess p q) (fun p => begins p q) := by unfold withinP; rw [if_pos h]
    have h5 : nl ≠ some true ∨ psts ((l.take (bsO (fun p => Op.bytesLess p q || begins p q) l)).drop (bsO (fun p => Op.bytesLess p q) l)) = [] := by
      rcases hn with hn | rfl
      · exact .inl hn
      · right; simp [psts]
    have h6 : ((l.take (bsO (fun p => Op.bytesLess p q || begins p q) l)).drop (bsO (fun p => Op.bytesLess p q) l)).length < 4294967296 := by omega
    simp only [h, Bool.true_eq_false, if_false, h1, h2, if_true, h4]
    rw [h4] at h5 h6
    rw [if_pos h6, if_pos h5]
  · have h' : okP l = false := by simpa using h
    simp only [h', if_true]
    unfold withinP
    rw [if_neg h]; rfl
theorem s85_ok : CSpecOk E 85 s85 := by
  intro a h cs vals h' he hc
  unfold s85 at he
  split at he <;> simp only [Option.some.injEq, Prod.mk.injEq, reduceCtorEq] at he
  · rename_i nl tt xs q
    obtain ⟨rfl, rfl, rfl⟩ := he
    simp only [allT, Bool.and_true, Bool.and_eq_true, decide_eq_true_eq] at hc
    obtain ⟨h1, h2, h3⟩ := hc
    obtain ⟨l, rfl⟩ := psts_ex h1
    rw [toPsts_psts]
    exact f85a l nl tt q (by simpa using h2) (by simpa [psts] using h3)
  · rename_i nl tt xs q
    obtain ⟨rfl, rfl, rfl⟩ := he
    simp only [allT, Bool.and_true, Bool.and_eq_true, decide_eq_true_eq] at hc
    obtain ⟨h1, h2, h3⟩ := hc
    obtain ⟨l, rfl⟩ := psts_ex h1
    rw [toPsts_psts]
    exact f85b l nl tt q (by simpa using h2) (by simpa [psts] using h3)
theorem f47 (l : List Pst) (nl : Option Bool) (tt : Bool) (q : List UInt8) (hl : l.length < 4294967296) (hn : nl ≠ some true ∨ l = []) : call E 47 [.c (.sl 3 nl tt (psts l)), .c (.str q)] [] = some ([.c (.sl 3 none false (psts (probeP l q)))], []) := by
  refine call_of (E := E) (sh := sh) (ct := ctOf [(85, s85)]) (na := 2) (m := 0) (ctOf_cons s85_ok ctOf_nil) rfl rfl rfl rfl rfl rfl ?_
  rw [t47]
  have h : nl ≠ some true ∨ psts l = [] := by simpa [psts] using hn
  simp only [psts_length, eo_ok, eo_ok', isPsts_psts, toPsts_psts, psts_take, psts_drop, psts_append, psts_snoc, psts_snoc', eo_p, eo_c, eo_k, eo_len, toPsts_length, dO_eo, eo_mk, ld_br, ld_chk', ld_leaf, fd_br, fd_chk', fd_leaf, decide_true, decide_eq_true_eq, if_true, Int.toNat_natCast, Int.natCast_nonneg, Int.ofNat_lt, Int.ofNat_le, Bool.false_eq_true, if_false, bne_iff_ne, beq_iff_eq, ne_eq, not_true_eq_false, not_false_eq_true, Bool.not_eq_true', decide_eq_false_iff_not, reduceCtorEq, rows_length, pcs_length, er_ok, er_ok', ep_ok, ep_ok', dr_er, dp_ep, isRows_rows, isPcs_pcs, toRows_rows, toPcs_pcs, rows_take, rows_drop, pcs_take, pcs_drop, rows_append, pcs_append, ints_length, isInts_ints, toInts_ints, ei_i, ei_ok, mk_headD, ints_take, ints_drop, ints_append, ints_snoc, ints_snoc', List.take_length, Nat.zero_add, Nat.le_refl, er_a, er_b, er_k, er_n, er_s, er_v, ep_a, ep_b, ep_hk, ep_hn, ep_hs, ep_wk, ep_wn, ep_ws, hl, h]
theorem f51 (l : List Pst) (nl : Option Bool) (tt : Bool) (q : List UInt8) (hl : l.length < 4294967296) (hn : nl ≠ some true ∨ l = []) : call E 51 [.c (.sl 3 nl tt (psts l)), .c (.str q)] [] = some ([.c (.sl 3 none false (psts (underP l q)))], []) := by
  refine call_of (E := E) (sh := sh) (ct := ctOf [(85, s85)]) (na := 2) (m := 0) (ctOf_cons s85_ok ctOf_nil) rfl rfl rfl rfl rfl rfl ?_
  rw [t51]
  have h : nl ≠ some true ∨ psts l = [] := by simpa [psts] using hn
  simp only [psts_length, eo_ok, eo_ok', isPsts_psts, toPsts_psts, psts_take, psts_drop, psts_append, psts_snoc, psts_snoc', eo_p, eo_c, eo_k, eo_len, toPsts_length, dO_eo, eo_mk, ld_br, ld_chk', ld_leaf, fd_br, fd_chk', fd_leaf, decide_true, decide_eq_true_eq, if_true, Int.toNat_natCast, Int.natCast_nonneg, Int.ofNat_lt, Int.ofNat_le, Bool.false_eq_true, if_false, bne_iff_ne, beq_iff_eq, ne_eq, not_true_eq_false, not_false_eq_true, Bool.not_eq_true', decide_eq_false_iff_not, reduceCtorEq, rows_length, pcs_length, er_ok, er_ok', ep_ok, ep_ok', dr_er, dp_ep, isRows_rows, isPcs_pcs, toRows_rows, toPcs_pcs, rows_take, rows_drop, pcs_take, pcs_drop, rows_append, pcs_append, ints_length, isInts_ints, toInts_ints, ei_i, ei_ok, mk_headD, ints_take, ints_drop, ints_append, ints_snoc, ints_snoc', List.take_length, Nat.zero_add, Nat.le_refl, er_a, er_b, er_k, er_n, er_s, er_v, ep_a, ep_b, ep_hk, ep_hn, ep_hs, ep_wk, ep_wn, ep_ws, hl, h]
end Go.Proofs.YtbilmkcdhodenaaDoor

end
