/-
  Chapter 02 (span): trees, written by a program.
-/
import Derived.Test.YtedniogmjhhhmaaDoorSP8
set_option linter.all false
set_option linter.unusedSimpArgs false
set_option linter.unusedVariables false
namespace Go.Proofs.YtedniogmjhhhmaaDoor
open Go Go.Ev
set_option pp.deepTerms true
set_option pp.maxSteps 1000000
set_option pp.funBinderTypes true
set_option pp.coercions.types true
/-- How many bytes the code point at a place has, as the reference has it; its loop: so many left, at so far, the sum. -/
def widthG (s : List UInt8) (at_ : Int) : Nat → Int → Int → Option Int
  | 0, _, c => some c
  | f + 1, i, c => if (s.length : Int) ≤ at_ + i then none else if ((s.getD (at_ + i).toNat 0).toNat : Int).tdiv 64 ≠ 2 then none else widthG s at_ f (i + 1) (64 * c + ((s.getD (at_ + i).toNat 0).toNat : Int).tmod 64)
def widthE (s : List UInt8) (at_ : Int) (n c least : Int) : Int := match widthG s at_ (n - 1).toNat 1 c with
  | none => 0
  | some c => if c < least then 0 else if 55296 ≤ c ∧ c < 57344 then 0 else if 1114111 < c then 0 else n
def widthR (s : List UInt8) (at_ : Int) : Int :=
  if at_ < 0 ∨ (s.length : Int) ≤ at_ then 0 else
    let b : Int := (s.getD at_.toNat 0).toNat
    if b < 128 then 1 else if 192 ≤ b ∧ b < 224 then widthE s at_ 2 (b - 192) 128 else if 224 ≤ b ∧ b < 240 then widthE s at_ 3 (b - 224) 2048 else if 240 ≤ b ∧ b < 248 then widthE s at_ 4 (b - 240) 65536 else 0
def s66 : CSpec := fun a h => match a, h with
  | [.c (.str s), .c (.int .i64 t)], [] => some ([decide (s.length < 1000000), decide (t < 1000000)], [V.i (widthR s t)], [])
  | _, _ => none
/-- .. of all the text, from a place on. -/
def runesR (s : List UInt8) : Nat → Int → Int → Int
  | 0, _, n => n
  | f + 1, at_, n => if at_ < s.length then (if widthR s at_ = 0 then -1 else runesR s f (at_ + widthR s at_) (n + 1)) else n
def s56 : CSpec := fun a h => match a, h with
  | [.c (.str s)], [] => some ([decide (s.length < 1000000)], [V.i (runesR s (s.length + 1) 0 0)], [])
  | _, _ => none
noncomputable abbrev p56 : Par := par E sh (ctOf [(66, s66)]) 56 1 0
abbrev s56_0 (s : List UInt8) (i3 : Int) (i4 : Int) : Fr × Hp := ([(0, V.c (C.str s)), (3, V.c (C.int IntKind.i64 i3)), (4, V.c (C.int IntKind.i64 i4))], [])
noncomputable abbrev b56_0 : Code := loopAt (codeOf p56.E p56.g) 0
abbrev x56_0x0 : Ex × Fr × Hp := (Ex.ret, [(2, V.c (C.int IntKind.i64 (-1)))], [])
abbrev x56_0x1 (s : List UInt8) (i3 : Int) (i4 : Int) : Ex × Fr × Hp := (Ex.exit 0, [(0, V.c (C.str s)), (3, V.c (C.int IntKind.i64 i3)), (4, V.c (C.int IntKind.i64 i4)), (9, V.c (C.bool false))], [])
theorem t56_0 (s : List UInt8) (i3 : Int) (i4 : Int) : p56.lts b56_0 (s56_0 s i3 i4) = (Tr.br (decide (i4 < (↑s.length : Int))) (Tr.chk (decide (s.length < 1000000)) (Tr.chk (decide (i4 < 1000000)) (Tr.br (widthR s i4 == 0) (Tr.leaf (R.x x56_0x0)) (Tr.leaf (R.s (s56_0 s (IntKind.i64.wrap (i3 + 1)) (IntKind.i64.wrap (i4 + widthR s i4)))))))) (Tr.leaf (R.x (x56_0x1 s i3 i4)))) := by kernel_rfl
theorem k56_0x0 : p56.fkx 0 x56_0x0 = (Tr.leaf (R.out [V.c (C.int IntKind.i64 (-1))] [])) := by kernel_rfl
theorem k56_0x1 (s : List UInt8) (i3 : Int) (i4 : Int) : p56.fkx 0 (x56_0x1 s i3 i4) = (Tr.leaf (R.out [V.c (C.int IntKind.i64 i3)] [])) := by kernel_rfl
theorem t56 (s : List UInt8) : p56.ft ([V.c (C.str s)]) ([]) = (Tr.ls 0 (s56_0 s (0) (0))) := by kernel_rfl
noncomputable abbrev p35 : Par := par E sh (ctOf [(56, s56)]) 35 1 0
theorem t35 (k : Int) (n : Int) (s : List UInt8) : p35.ft ([V.agg [V.i k, V.i n, V.c (C.str s)]]) ([]) = (Tr.br (k == 1) (Tr.br (s == []) (Tr.leaf (R.out [V.c (C.bool true)] [])) (Tr.br (k == 2) (Tr.br (n == 0) (Tr.br (decide ((↑s.length : Int) ≤ 40)) (Tr.chk (decide (s.length < 1000000)) (Tr.leaf (R.out [V.c (C.bool (decide (0 ≤ runesR s (s.length + 1) 0 0)))] []))) (Tr.leaf (R.out [V.c (C.bool false)] []))) (Tr.leaf (R.out [V.c (C.bool false)] []))) (Tr.leaf (R.out [V.c (C.bool false)] [])))) (Tr.br (k == 2) (Tr.br (n == 0) (Tr.br (decide ((↑s.length : Int) ≤ 40)) (Tr.chk (decide (s.length < 1000000)) (Tr.leaf (R.out [V.c (C.bool (decide (0 ≤ runesR s (s.length + 1) 0 0)))] []))) (Tr.leaf (R.out [V.c (C.bool false)] []))) (Tr.leaf (R.out [V.c (C.bool false)] []))) (Tr.leaf (R.out [V.c (C.bool false)] [])))) := by kernel_rfl
def valR (v : Val) : Bool := (decide (v.k = 1) && decide (v.s = [])) || (decide (v.k = 2) && decide (v.n = 0) && decide (v.s.length ≤ 40) && decide (0 ≤ runesR v.s (v.s.length + 1) 0 0))
def s35 : CSpec := fun a h => match a, h with
  | [.agg [.c (.int .i64 k), .c (.int .i64 n), .c (.str s)]], [] => some ([], [V.b (valR ⟨k, n, s⟩)], [])
  | _, _ => none
def s36 : CSpec := s27
noncomputable abbrev p34 : Par := par E sh (ctOf [(36, s36), (35, s35)]) 34 1 0
abbrev s34_0 (nl : Option Bool) (tt : Bool) (xs : List (List C)) (i3 : Int) : Fr × Hp := ([(0, V.c (C.sl 5 nl tt xs)), (3, V.c (C.int IntKind.i64 i3))], [])
noncomputable abbrev b34_0 : Code := loopAt (codeOf p34.E p34.g) 0
abbrev x34_0x0 : Ex × Fr × Hp := (Ex.ret, [(2, V.c (C.bool false))], [])
abbrev x34_0x1 (nl : Option Bool) (tt : Bool) (xs : List (List C)) (i3 : Int) : Ex × Fr × Hp := (Ex.exit 0, [(0, V.c (C.sl 5 nl tt xs)), (3, V.c (C.int IntKind.i64 i3)), (10, V.c (C.bool false))], [])
theorem t34_0 (nl : Option Bool) (tt : Bool) (xs : List (List C)) (i3 : Int) : p34.lts b34_0 (s34_0 nl tt xs i3) = (Tr.br (decide (i3 < (↑xs.length : Int))) (Tr.chk (decide (0 ≤ i3)) (Tr.chk true (Tr.chk (decide (i3.toNat < xs.length)) (Tr.chk (shOk [Sk.int IntKind.i64, Sk.int IntKind.i64, Sk.int IntKind.i64, Sk.int IntKind.i64, Sk.str] (xs.getD i3.toNat [])) (Tr.chk (decide (0 ≤ i3)) (Tr.chk true (Tr.chk (decide (i3.toNat < xs.length)) (Tr.chk (shOk [Sk.int IntKind.i64, Sk.int IntKind.i64, Sk.int IntKind.i64, Sk.int IntKind.i64, Sk.str] (xs.getD i3.toNat [])) (Tr.br (!isSpan ((xs.getD i3.toNat []).headD C.pnil).i ((xs.getD i3.toNat []).tail.headD C.pnil).i) (Tr.leaf (R.x x34_0x0)) (Tr.chk (decide (0 ≤ i3)) (Tr.chk true (Tr.chk (decide (i3.toNat < xs.length)) (Tr.chk (shOk [Sk.int IntKind.i64, Sk.int IntKind.i64, Sk.int IntKind.i64, Sk.int IntKind.i64, Sk.str] (xs.getD i3.toNat [])) (Tr.br (!valR { k := ((xs.getD i3.toNat []).tail.tail.headD C.pnil).i, n := ((xs.getD i3.toNat []).tail.tail.tail.headD C.pnil).i, s := ((xs.getD i3.toNat []).tail.tail.tail.tail.headD C.pnil).st }) (Tr.leaf (R.x x34_0x0)) (Tr.br (decide (0 < i3)) (Tr.chk (decide (0 ≤ i3)) (Tr.chk true (Tr.chk (decide (i3.toNat < xs.length)) (Tr.chk (shOk [Sk.int IntKind.i64, Sk.int IntKind.i64, Sk.int IntKind.i64, Sk.int IntKind.i64, Sk.str] (xs.getD i3.toNat [])) (Tr.chk (decide (0 ≤ IntKind.i64.wrap (i3 - 1))) (Tr.chk true (Tr.chk (decide ((IntKind.i64.wrap (i3 - 1)).toNat < xs.length)) (Tr.chk (shOk [Sk.int IntKind.i64, Sk.int IntKind.i64, Sk.int IntKind.i64, Sk.int IntKind.i64, Sk.str] (xs.getD (IntKind.i64.wrap (i3 - 1)).toNat [])) (Tr.br (decide (((xs.getD i3.toNat []).headD C.pnil).i < ((xs.getD (IntKind.i64.wrap (i3 - 1)).toNat []).tail.headD C.pnil).i)) (Tr.leaf (R.x x34_0x0)) (Tr.chk (decide (0 ≤ i3)) (Tr.chk true (Tr.chk (decide (i3.toNat < xs.length)) (Tr.chk (shOk [Sk.int IntKind.i64, Sk.int IntKind.i64, Sk.int IntKind.i64, Sk.int IntKind.i64, Sk.str] (xs.getD i3.toNat [])) (Tr.chk (decide (0 ≤ IntKind.i64.wrap (i3 - 1))) (Tr.chk true (Tr.chk (decide ((IntKind.i64.wrap (i3 - 1)).toNat < xs.length)) (Tr.chk (shOk [Sk.int IntKind.i64, Sk.int IntKind.i64, Sk.int IntKind.i64, Sk.int IntKind.i64, Sk.str] (xs.getD (IntKind.i64.wrap (i3 - 1)).toNat [])) (Tr.br (((xs.getD i3.toNat []).headD C.pnil).i == ((xs.getD (IntKind.i64.wrap (i3 - 1)).toNat []).tail.headD C.pnil).i) (Tr.chk (decide (0 ≤ i3)) (Tr.chk true (Tr.chk (decide (i3.toNat < xs.length)) (Tr.chk (shOk [Sk.int IntKind.i64, Sk.int IntKind.i64, Sk.int IntKind.i64, Sk.int IntKind.i64, Sk.str] (xs.getD i3.toNat [])) (Tr.chk (decide (0 ≤ IntKind.i64.wrap (i3 - 1))) (Tr.chk true (Tr.chk (decide ((IntKind.i64.wrap (i3 - 1)).toNat < xs.length)) (Tr.chk (shOk [Sk.int IntKind.i64, Sk.int IntKind.i64, Sk.int IntKind.i64, Sk.int IntKind.i64, Sk.str] (xs.getD (IntKind.i64.wrap (i3 - 1)).toNat [])) (Tr.br (((xs.getD i3.toNat []).tail.tail.headD C.pnil).i == ((xs.getD (IntKind.i64.wrap (i3 - 1)).toNat []).tail.tail.headD C.pnil).i && (((xs.getD i3.toNat []).tail.tail.tail.headD C.pnil).i == ((xs.getD (IntKind.i64.wrap (i3 - 1)).toNat []).tail.tail.tail.headD C.pnil).i && (((xs.getD i3.toNat []).tail.tail.tail.tail.headD C.pnil).st == ((xs.getD (IntKind.i64.wrap (i3 - 1)).toNat []).tail.tail.tail.tail.headD C.pnil).st && true))) (Tr.leaf (R.x x34_0x0)) (Tr.leaf (R.s (s34_0 nl tt xs (IntKind.i64.wrap (i3 + 1)))))))))))))) (Tr.leaf (R.s (s34_0 nl tt xs (IntKind.i64.wrap (i3 + 1))))))))))))))))))))))) (Tr.leaf (R.s (s34_0 nl tt xs (IntKind.i64.wrap (i3 + 1)))))))))))))))))))) (Tr.leaf (R.x (x34_0x1 nl tt xs i3)))) := by kernel_rfl
theorem k34_0x0 : p34.fkx 0 x34_0x0 = (Tr.leaf (R.out [V.c (C.bool false)] [])) := by kernel_rfl
theorem k34_0x1 (nl : Option Bool) (tt : Bool) (xs : List (List C)) (i3 : Int) : p34.fkx 0 (x34_0x1 nl tt xs i3) = (Tr.leaf (R.out [V.c (C.bool true)] [])) := by kernel_rfl
theorem t34 (nl : Option Bool) (tt : Bool) (xs : List (List C)) : p34.ft ([V.c (C.sl 5 nl tt xs)]) ([]) = (Tr.br (decide (64 < (↑xs.length : Int))) (Tr.leaf (R.out [V.c (C.bool false)] [])) (Tr.ls 0 (s34_0 nl tt xs (0)))) := by kernel_rfl
end Go.Proofs.YtedniogmjhhhmaaDoor
