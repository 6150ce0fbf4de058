/-
  Chapter 02 (span): trees, written by a program.
-/
import Derived.Test.YtedniogmjhhhmaaDoorSP13
set_option linter.all false
set_option linter.unusedSimpArgs false
set_option linter.unusedVariables false
namespace Go.Proofs.YtedniogmjhhhmaaDoor
open Go Go.Ev
set_option pp.structureInstanceTypes true
set_option pp.deepTerms true
set_option pp.maxSteps 1000000
set_option pp.funBinderTypes true
set_option pp.coercions.types true
noncomputable abbrev p9 : Par := par E sh (ctOf []) 9 1 0
abbrev s9_0 (nl : Option Bool) (tt : Bool) (xs : List (List C)) (i3 : Int) : Fr × Hp := ([(0, V.c (C.sl 5 nl tt xs)), (3, V.c (C.int IntKind.i64 i3))], [])
noncomputable abbrev b9_0 : Code := loopAt (codeOf p9.E p9.g) 0
abbrev x9_0x0 : Ex × Fr × Hp := (Ex.ret, [(2, V.c (C.bool false))], [])
abbrev x9_0x1 (nl : Option Bool) (tt : Bool) (xs : List (List C)) (i3 : Int) : Ex × Fr × Hp := (Ex.exit 0, [(0, V.c (C.sl 5 nl tt xs)), (3, V.c (C.int IntKind.i64 i3)), (10, V.c (C.bool false))], [])
theorem t9_0 (nl : Option Bool) (tt : Bool) (xs : List (List C)) (i3 : Int) : p9.lts b9_0 (s9_0 nl tt xs i3) = (Tr.br (decide (i3 < (↑xs.length : Int))) (Tr.chk (decide (0 ≤ i3)) (Tr.chk true (Tr.chk (decide (i3.toNat < xs.length)) (Tr.chk (shOk [Sk.int IntKind.i64, Sk.int IntKind.i64, Sk.int IntKind.i64, Sk.int IntKind.i64, Sk.str] (xs.getD i3.toNat [])) (Tr.br (decide (200 < (↑((xs.getD i3.toNat []).tail.tail.tail.tail.headD C.pnil).st.length : Int))) (Tr.leaf (R.x x9_0x0)) (Tr.leaf (R.s (s9_0 nl tt xs (IntKind.i64.wrap (i3 + 1)))))))))) (Tr.leaf (R.x (x9_0x1 nl tt xs i3)))) := by kernel_rfl
theorem k9_0x0 : p9.fkx 0 x9_0x0 = (Tr.leaf (R.out [V.c (C.bool false)] [])) := by kernel_rfl
theorem k9_0x1 (nl : Option Bool) (tt : Bool) (xs : List (List C)) (i3 : Int) : p9.fkx 0 (x9_0x1 nl tt xs i3) = (Tr.leaf (R.out [V.c (C.bool true)] [])) := by kernel_rfl
theorem t9 (nl : Option Bool) (tt : Bool) (xs : List (List C)) : p9.ft ([V.c (C.sl 5 nl tt xs)]) ([]) = (Tr.br (decide (80 < (↑xs.length : Int))) (Tr.leaf (R.out [V.c (C.bool false)] [])) (Tr.ls 0 (s9_0 nl tt xs (0)))) := by kernel_rfl
noncomputable abbrev p29 : Par := par E sh (ctOf []) 29 1 0
theorem t29 (n : Int) : p29.ft ([V.i n]) ([]) = (Tr.leaf (R.out [V.agg [V.c (C.int IntKind.i64 1), V.c (C.int IntKind.i64 n), V.c (C.str [])]] [])) := by kernel_rfl
def s29 : CSpec := fun a h => match a, h with
  | [.c (.int .i64 n)], [] => some ([], [VV ⟨1, n, []⟩], [])
  | _, _ => none
def s9 : CSpec := fun a h => match a, h with
  | [.c (.sl 5 nl tt xs)], [] => some ([isRows xs], [V.b (decide (xs.length ≤ 80) && (toRows xs).all fun r => decide (r.v.s.length ≤ 200))], [])
  | _, _ => none
def s15 : CSpec := fun a h => match a, h with
  | [.c (.sl 5 nl tt xs), .c (.int .i64 a), .c (.int .i64 b), .agg [.c (.int .i64 k), .c (.int .i64 m), .c (.str s)]], [] => some ([isRows xs], [.c (.sl 5 none false (rows (putR (toRows xs) a b ⟨k, m, s⟩))), V.i (putE (toRows xs) a b ⟨k, m, s⟩)], [])
  | _, _ => none
def s18 : CSpec := s15
def s16 : CSpec := fun a h => match a, h with
  | [.c (.sl 5 nl tt xs), .c (.int .i64 a), .c (.int .i64 b)], [] => some ([isRows xs], [.c (.sl 5 none false (rows (turnR (toRows xs) a b Val.none))), V.i (turnE (toRows xs) a b Val.none)], [])
  | _, _ => none
def s19 : CSpec := s16
def s14 : CSpec := fun a h => match a, h with
  | [.c (.sl 5 nl tt xs), .c (.sl 5 nl2 t2 ys)], [] => some ([isRows xs, isRows ys, decide (xs.length < 4294967296)], [V.b (decide (toRows xs = toRows ys))], [])
  | _, _ => none
def s25 : CSpec := fun a h => match a, h with
  | [.c (.sl 8 nl tt xs), .c (.sl 8 nl2 t2 ys)], [] => some ([isPcs xs, isPcs ys, decide (xs.length < 4294967296)], [V.b (decide (toPcs xs = toPcs ys))], [])
  | _, _ => none
def s26 : CSpec := s13
def s20 : CSpec := fun a h => match a, h with
  | [.c (.sl 5 nl tt xs), .c (.int .i64 t)], [] => some ([isRows xs], [VV (atP (toRows xs) t), V.b ((atP (toRows xs) t).k != 0)], [])
  | _, _ => none
def s21 : CSpec := s10
def s17 : CSpec := fun a h => match a, h with
  | [.c (.sl 5 nl tt xs), .c (.int .i64 a), .c (.int .i64 b)], [] => some ([isRows xs], [.c (.sl 5 none false (rows (clipR (toRows xs) a b)))], [])
  | _, _ => none
def s22 : CSpec := s17
def s23 : CSpec := fun a h => match a, h with
  | [.c (.sl 5 none false xs), .c (.sl 8 nl2 t2 ys)], [] => some ([isRows xs, isPcs ys, decide (ys.length < 10000)], [.c (.sl 5 none false (rows (applyR (toRows xs) (toPcs ys)))), V.i (applyE (toRows xs) (toPcs ys))], [])
  | _, _ => none
def s24 : CSpec := fun a h => match a, h with
  | [.c (.sl 5 nl tt xs), .c (.sl 8 nl2 t2 ys)], [] => some ([isRows xs, isPcs ys, decide (ys.length < 10000)], [.c (.sl 5 none false (rows (applyR (toRows xs) (toPcs ys)))), V.i (applyE (toRows xs) (toPcs ys))], [])
  | _, _ => none
noncomputable abbrev ctX : CT := ctOf [(9, s9), (10, s10), (12, s12), (13, s13), (14, s14), (15, s15), (16, s16), (17, s17), (18, s18), (19, s19), (20, s20), (21, s21), (22, s22), (23, s23), (24, s24), (25, s25), (26, s26), (29, s29)]
noncomputable abbrev p11 : Par := par E sh ctX 11 0 0
theorem t11 : p11.ft ([]) ([]) = (Tr.chk true (Tr.chk true (Tr.chk true (Tr.br true (Tr.br true (Tr.br true (Tr.chk true (Tr.chk true (Tr.chk true (Tr.br true (Tr.chk true (Tr.chk true (Tr.chk true (Tr.br true (Tr.chk true (Tr.chk true (Tr.chk (isPcs (pcs (diffR (toRows (rows (putR (toRows (rows (putR (toRows []) 0 10 { k := { k := 1, n := 7, s := [] : Val }.k, n := { k := 1, n := 7, s := [] : Val }.n, s := { k := 1, n := 7, s := [] : Val }.s : Val }))) 4 6 { k := { k := 1, n := 8, s := [] : Val }.k, n := { k := 1, n := 8, s := [] : Val }.n, s := { k := 1, n := 8, s := [] : Val }.s : Val }))) (toRows (rows (putR (toRows (rows (putR (toRows (rows (putR (toRows []) 0 10 { k := { k := 1, n := 7, s := [] : Val }.k, n := { k := 1, n := 7, s := [] : Val }.n, s := { k := 1, n := 7, s := [] : Val }.s : Val }))) 4 6 { k := { k := 1, n := 8, s := [] : Val }.k, n := { k := 1, n := 8, s := [] : Val }.n, s := { k := 1, n := 8, s := [] : Val }.s : Val }))) 4 6 { k := { k := 1, n := 7, s := [] : Val }.k, n := { k := 1, n := 7, s := [] : Val }.n, s := { k := 1, n := 7, s := [] : Val }.s : Val })))))) (Tr.chk true (Tr.chk (decide ((pcs (diffR (toRows (rows (putR (toRows (rows (putR (toRows []) 0 10 { k := { k := 1, n := 7, s := [] : Val }.k, n := { k := 1, n := 7, s := [] : Val }.n, s := { k := 1, n := 7, s := [] : Val }.s : Val }))) 4 6 { k := { k := 1, n := 8, s := [] : Val }.k, n := { k := 1, n := 8, s := [] : Val }.n, s := { k := 1, n := 8, s := [] : Val }.s : Val }))) (toRows (rows (putR (toRows (rows (putR (toRows (rows (putR (toRows []) 0 10 { k := { k := 1, n := 7, s := [] : Val }.k, n := { k := 1, n := 7, s := [] : Val }.n, s := { k := 1, n := 7, s := [] : Val }.s : Val }))) 4 6 { k := { k := 1, n := 8, s := [] : Val }.k, n := { k := 1, n := 8, s := [] : Val }.n, s := { k := 1, n := 8, s := [] : Val }.s : Val }))) 4 6 { k := { k := 1, n := 7, s := [] : Val }.k, n := { k := 1, n := 7, s := [] : Val }.n, s := { k := 1, n := 7, s := [] : Val }.s : Val }))))).length < 4294967296)) (Tr.leaf (R.out [V.c (C.bool (decide (toPcs (pcs (diffR (toRows (rows (putR (toRows (rows (putR (toRows []) 0 10 { k := { k := 1, n := 7, s := [] : Val }.k, n := { k := 1, n := 7, s := [] : Val }.n, s := { k := 1, n := 7, s := [] : Val }.s : Val }))) 4 6 { k := { k := 1, n := 8, s := [] : Val }.k, n := { k := 1, n := 8, s := [] : Val }.n, s := { k := 1, n := 8, s := [] : Val }.s : Val }))) (toRows (rows (putR (toRows (rows (putR (toRows (rows (putR (toRows []) 0 10 { k := { k := 1, n := 7, s := [] : Val }.k, n := { k := 1, n := 7, s := [] : Val }.n, s := { k := 1, n := 7, s := [] : Val }.s : Val }))) 4 6 { k := { k := 1, n := 8, s := [] : Val }.k, n := { k := 1, n := 8, s := [] : Val }.n, s := { k := 1, n := 8, s := [] : Val }.s : Val }))) 4 6 { k := { k := 1, n := 7, s := [] : Val }.k, n := { k := 1, n := 7, s := [] : Val }.n, s := { k := 1, n := 7, s := [] : Val }.s : Val }))))) = toPcs [[C.int IntKind.i64 4, C.int IntKind.i64 6, C.int IntKind.i64 { k := 1, n := 8, s := [] : Val }.k, C.int IntKind.i64 { k := 1, n := 8, s := [] : Val }.n, C.str { k := 1, n := 8, s := [] : Val }.s, C.int IntKind.i64 { k := 1, n := 7, s := [] : Val }.k, C.int IntKind.i64 { k := 1, n := 7, s := [] : Val }.n, C.str { k := 1, n := 7, s := [] : Val }.s]])))] []))))))) (Tr.leaf (R.out [V.c (C.bool false)] [])))))) (Tr.leaf (R.out [V.c (C.bool false)] [])))))) (Tr.leaf (R.out [V.c (C.bool false)] []))) (Tr.leaf (R.out [V.c (C.bool false)] []))) (Tr.leaf (R.out [V.c (C.bool false)] [])))))) := by kernel_rfl
def s11 : CSpec := fun a h => match a, h with
  | [], [] => some ([], [V.b true], [])
  | _, _ => none
noncomputable abbrev ctL : CT := ctOf [(9, s9), (10, s10), (12, s12), (13, s13), (14, s14), (15, s15), (16, s16), (17, s17), (18, s18), (19, s19), (20, s20), (21, s21), (22, s22), (23, s23), (24, s24), (25, s25), (26, s26), (11, s11)]
end Go.Proofs.YtedniogmjhhhmaaDoor
