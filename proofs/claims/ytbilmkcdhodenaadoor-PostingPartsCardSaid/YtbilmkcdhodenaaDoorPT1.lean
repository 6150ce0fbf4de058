/-
  Chapter 13 (posting): trees, written by a program.
-/
import Derived.Test.YtbilmkcdhodenaaDoorBT1
import Derived.Test.YtbilmkcdhodenaaDoorPM2
set_option linter.all false
set_option linter.unusedSimpArgs false
set_option linter.unusedVariables false
section
namespace Go.Proofs.YtbilmkcdhodenaaDoor
open Go Go.Ev
set_option pp.deepTerms true
set_option pp.maxSteps 1000000
set_option pp.funBinderTypes true
set_option pp.coercions.types true
noncomputable abbrev p45 : Par := par E sh (ctOf []) 45 1 0
theorem t45 (k : Int) : p45.ft ([V.i k]) ([]) = (Tr.br (k == 1) (Tr.leaf (R.out [V.c (C.str [97, 100, 100, 101, 100])] [])) (Tr.br (k == 2) (Tr.leaf (R.out [V.c (C.str [99, 104, 97, 110, 103, 101, 100])] [])) (Tr.br (k == 3) (Tr.leaf (R.out [V.c (C.str [114, 101, 109, 111, 118, 101, 100])] [])) (Tr.leaf (R.out [V.c (C.str [])] []))))) := by kernel_rfl
noncomputable abbrev p46 : Par := par E sh (ctOf []) 46 1 0
theorem t46 (k : Int) : p46.ft ([V.i k]) ([]) = (Tr.br (k == 1) (Tr.leaf (R.out [V.c (C.str [97, 100, 100, 101, 100])] [])) (Tr.br (k == 2) (Tr.leaf (R.out [V.c (C.str [99, 104, 97, 110, 103, 101, 100])] [])) (Tr.br (k == 3) (Tr.leaf (R.out [V.c (C.str [114, 101, 109, 111, 118, 101, 100])] [])) (Tr.leaf (R.out [V.c (C.str [])] []))))) := by kernel_rfl
noncomputable abbrev p84 : Par := par E sh (ctOf []) 84 1 0
theorem t84 (s : List UInt8) : p84.ft ([V.c (C.str s)]) ([]) = (Tr.br (!s == []) (Tr.leaf (R.out [V.c (C.bool (decide ((↑s.length : Int) ≤ 24)))] [])) (Tr.leaf (R.out [V.c (C.bool false)] []))) := by kernel_rfl
noncomputable abbrev p89 : Par := par E sh (ctOf []) 89 1 0
theorem t89 (s : List UInt8) : p89.ft ([V.c (C.str s)]) ([]) = (Tr.br (decide (1 ≤ (↑s.length : Int))) (Tr.leaf (R.out [V.c (C.bool (decide ((↑s.length : Int) ≤ 24)))] [])) (Tr.leaf (R.out [V.c (C.bool false)] []))) := by kernel_rfl
noncomputable abbrev p169 : Par := par E sh (ctOf []) 169 1 0
theorem t169 (k : Int) : p169.ft ([V.i k]) ([]) = (Tr.leaf (R.out [V.c (C.bool (k != k))] [])) := by kernel_rfl
def s169 : CSpec := fun a h => match a, h with
  | [.c (.int .i64 _)], [] => some ([], [V.b false], [])
  | _, _ => none
noncomputable abbrev p127 : Par := par E sh (ctOf [(169, s169)]) 127 2 0
theorem t127 (a : Int) (b : Int) : p127.ft ([V.i a, V.i b]) ([]) = (Tr.br false (Tr.br false (Tr.leaf (R.out [V.c (C.int IntKind.i64 0)] [])) (Tr.leaf (R.out [V.c (C.int IntKind.i64 (-1))] []))) (Tr.br false (Tr.leaf (R.out [V.c (C.int IntKind.i64 1)] [])) (Tr.br (decide (a < b)) (Tr.leaf (R.out [V.c (C.int IntKind.i64 (-1))] [])) (Tr.br (decide (b < a)) (Tr.leaf (R.out [V.c (C.int IntKind.i64 1)] [])) (Tr.leaf (R.out [V.c (C.int IntKind.i64 0)] [])))))) := by kernel_rfl
def s127 : CSpec := fun a h => match a, h with
  | [.c (.int .i64 a), .c (.int .i64 b)], [] => some ([], [V.i (cmpI a b)], [])
  | _, _ => none
noncomputable abbrev p81 : Par := par E sh (ctOf [(126, s126), (127, s127)]) 81 2 0
theorem t81 (s : List UInt8) (c : Int) (k : Int) (s2 : List UInt8) (c2 : Int) (k2 : Int) : p81.ft ([V.agg [V.c (C.str s), V.i c, V.i k], V.agg [V.c (C.str s2), V.i c2, V.i k2]]) ([]) = (Tr.br (cmpB s s2 != 0) (Tr.leaf (R.out [V.c (C.int IntKind.i64 (cmpB s s2))] [])) (Tr.leaf (R.out [V.c (C.int IntKind.i64 (cmpI c c2))] []))) := by kernel_rfl
noncomputable abbrev p83 : Par := par E sh (ctOf []) 83 2 0
theorem t83 (s : List UInt8) (c : Int) (k : Int) (s2 : List UInt8) (c2 : Int) (k2 : Int) : p83.ft ([V.agg [V.c (C.str s), V.i c, V.i k], V.agg [V.c (C.str s2), V.i c2, V.i k2]]) ([]) = (Tr.br (Op.bytesLess s s2) (Tr.leaf (R.out [V.c (C.bool true)] [])) (Tr.br (s == s2) (Tr.leaf (R.out [V.c (C.bool (decide (c < c2)))] [])) (Tr.leaf (R.out [V.c (C.bool false)] [])))) := by kernel_rfl
def s45 : CSpec := fun a h => match a, h with
  | [.c (.int .i64 k)], [] => some ([], [.c (.str (wordP k))], [])
  | _, _ => none
def s84 : CSpec := fun a h => match a, h with
  | [.c (.str s)], [] => some ([], [V.b (isPath s)], [])
  | _, _ => none
def s81 : CSpec := fun a h => match a, h with
  | [.agg [.c (.str s), .c (.int .i64 c), .c (.int .i64 k)], .agg [.c (.str s2), .c (.int .i64 c2), .c (.int .i64 k2)]], [] => some ([], [V.i (orderP ⟨s, c, k⟩ ⟨s2, c2, k2⟩)], [])
  | _, _ => none
def s83 : CSpec := fun a h => match a, h with
  | [.agg [.c (.str s), .c (.int .i64 c), .c (.int .i64 k)], .agg [.c (.str s2), .c (.int .i64 c2), .c (.int .i64 k2)]], [] => some ([], [V.b (lessP ⟨s, c, k⟩ ⟨s2, c2, k2⟩)], [])
  | _, _ => none
noncomputable abbrev p43 : Par := par E sh (ctOf [(84, s84), (45, s45), (81, s81)]) 43 1 0
abbrev s43_0 (nl : Option Bool) (tt : Bool) (xs : List (List C)) (i6 : Int) (i7 : Int) : Fr × Hp := ([(0, V.c (C.sl 3 nl tt xs)), (5, V.c (C.sl 3 nl tt xs)), (6, V.c (C.int IntKind.i64 i6)), (7, V.c (C.int IntKind.i64 i7))], [])
noncomputable abbrev b43_0 : Code := loopAt (codeOf p43.E p43.g) 0
abbrev x43_0x0 (sh0 : List UInt8) (ih0 : Int) (ih0_1 : Int) : Ex × Fr × Hp := (Ex.ret, [(2, V.c (C.int IntKind.i64 2))], [O.box [V.c (C.str sh0), V.c (C.int IntKind.i64 ih0), V.c (C.int IntKind.i64 ih0_1)]])
abbrev x43_0x1 (nl : Option Bool) (tt : Bool) (xs : List (List C)) (i6 : Int) (i7 : Int) : Ex × Fr × Hp := (Ex.exit 0, [(0, V.c (C.sl 3 nl tt xs)), (5, V.c (C.sl 3 nl tt xs)), (6, V.c (C.int IntKind.i64 i6)), (7, V.c (C.int IntKind.i64 i7)), (8, V.c (C.bool false))], [])
theorem t43_0 (nl : Option Bool) (tt : Bool) (xs : List (List C)) (i6 : Int) (i7 : Int) : p43.lts b43_0 (s43_0 nl tt xs i6 i7) = (Tr.br (decide (i7 < i6)) (Tr.chk (decide (0 ≤ i7)) (Tr.chk true (Tr.chk (decide (i7.toNat < xs.length)) (Tr.chk (shOk [Sk.str, Sk.int IntKind.i64, Sk.int IntKind.i64] (xs.getD i7.toNat [])) (Tr.br (!isPath ((xs.getD i7.toNat []).headD C.pnil).st) (Tr.leaf (R.x (x43_0x0 (((xs.getD i7.toNat []).headD C.pnil).st) (((xs.getD i7.toNat []).tail.headD C.pnil).i) (((xs.getD i7.toNat []).tail.tail.headD C.pnil).i)))) (Tr.br (decide (((xs.getD i7.toNat []).tail.headD C.pnil).i < 1)) (Tr.leaf (R.x (x43_0x0 (((xs.getD i7.toNat []).headD C.pnil).st) (((xs.getD i7.toNat []).tail.headD C.pnil).i) (((xs.getD i7.toNat []).tail.tail.headD C.pnil).i)))) (Tr.br (decide (500 < ((xs.getD i7.toNat []).tail.headD C.pnil).i)) (Tr.leaf (R.x (x43_0x0 (((xs.getD i7.toNat []).headD C.pnil).st) (((xs.getD i7.toNat []).tail.headD C.pnil).i) (((xs.getD i7.toNat []).tail.tail.headD C.pnil).i)))) (Tr.br (wordP ((xs.getD i7.toNat []).tail.tail.headD C.pnil).i == []) (Tr.leaf (R.x (x43_0x0 (((xs.getD i7.toNat []).headD C.pnil).st) (((xs.getD i7.toNat []).tail.headD C.pnil).i) (((xs.getD i7.toNat []).tail.tail.headD C.pnil).i)))) (Tr.br (decide (0 < i7)) (Tr.chk (decide (0 ≤ IntKind.i64.wrap (i7 - 1))) (Tr.chk true (Tr.chk (decide ((IntKind.i64.wrap (i7 - 1)).toNat < xs.length)) (Tr.chk (shOk [Sk.str, Sk.int IntKind.i64, Sk.int IntKind.i64] (xs.getD (IntKind.i64.wrap (i7 - 1)).toNat [])) (Tr.br (decide (0 ≤ orderP { p := ((xs.getD (IntKind.i64.wrap (i7 - 1)).toNat []).headD C.pnil).st, c := ((xs.getD (IntKind.i64.wrap (i7 - 1)).toNat []).tail.headD C.pnil).i, k := ((xs.getD (IntKind.i64.wrap (i7 - 1)).toNat []).tail.tail.headD C.pnil).i } { p := ((xs.getD i7.toNat []).headD C.pnil).st, c := ((xs.getD i7.toNat []).tail.headD C.pnil).i, k := ((xs.getD i7.toNat []).tail.tail.headD C.pnil).i })) (Tr.leaf (R.x (x43_0x0 (((xs.getD i7.toNat []).headD C.pnil).st) (((xs.getD i7.toNat []).tail.headD C.pnil).i) (((xs.getD i7.toNat []).tail.tail.headD C.pnil).i)))) (Tr.leaf (R.s (s43_0 nl tt xs i6 (IntKind.i64.wrap (i7 + 1)))))))))) (Tr.leaf (R.s (s43_0 nl tt xs i6 (IntKind.i64.wrap (i7 + 1)))))))))))))) (Tr.leaf (R.x (x43_0x1 nl tt xs i6 i7)))) := by kernel_rfl
theorem k43_0x0 (sh0 : List UInt8) (ih0 : Int) (ih0_1 : Int) : p43.fkx 0 (x43_0x0 sh0 ih0 ih0_1) = (Tr.leaf (R.out [V.c (C.int IntKind.i64 2)] [])) := by kernel_rfl
theorem k43_0x1 (nl : Option Bool) (tt : Bool) (xs : List (List C)) (i6 : Int) (i7 : Int) : p43.fkx 0 (x43_0x1 nl tt xs i6 i7) = (Tr.leaf (R.out [V.c (C.int IntKind.i64 0)] [])) := by kernel_rfl
theorem t43 (nl : Option Bool) (tt : Bool) (xs : List (List C)) : p43.ft ([V.c (C.sl 3 nl tt xs)]) ([]) = (Tr.ls 0 (s43_0 nl tt xs ((↑xs.length : Int)) (0))) := by kernel_rfl
noncomputable abbrev p82 : Par := par E sh (ctOf [(89, s84), (83, s83)]) 82 1 0
abbrev s82_0 (nl : Option Bool) (tt : Bool) (xs : List (List C)) (i3 : Int) : Fr × Hp := ([(0, V.c (C.sl 3 nl tt xs)), (3, V.c (C.int IntKind.i64 i3))], [])
noncomputable abbrev b82_0 : Code := loopAt (codeOf p82.E p82.g) 0
abbrev x82_0x0 : Ex × Fr × Hp := (Ex.ret, [(2, V.c (C.bool false))], [])
abbrev x82_0x1 (nl : Option Bool) (tt : Bool) (xs : List (List C)) (i3 : Int) : Ex × Fr × Hp := (Ex.exit 0, [(0, V.c (C.sl 3 nl tt xs)), (3, V.c (C.int IntKind.i64 i3)), (7, V.c (C.bool false))], [])
theorem t82_0 (nl : Option Bool) (tt : Bool) (xs : List (List C)) (i3 : Int) : p82.lts b82_0 (s82_0 nl tt xs i3) = (Tr.br (decide (i3 < (↑xs.length : Int))) (Tr.chk (decide (0 ≤ i3)) (Tr.chk true (Tr.chk (decide (i3.toNat < xs.length)) (Tr.chk (shOk [Sk.str, Sk.int IntKind.i64, Sk.int IntKind.i64] (xs.getD i3.toNat [])) (Tr.br (!isPath ((xs.getD i3.toNat []).headD C.pnil).st) (Tr.leaf (R.x x82_0x0)) (Tr.chk (decide (0 ≤ i3)) (Tr.chk true (Tr.chk (decide (i3.toNat < xs.length)) (Tr.chk (shOk [Sk.str, Sk.int IntKind.i64, Sk.int IntKind.i64] (xs.getD i3.toNat [])) (Tr.br (decide (((xs.getD i3.toNat []).tail.headD C.pnil).i < 1)) (Tr.leaf (R.x x82_0x0)) (Tr.chk (decide (0 ≤ i3)) (Tr.chk true (Tr.chk (decide (i3.toNat < xs.length)) (Tr.chk (shOk [Sk.str, Sk.int IntKind.i64, Sk.int IntKind.i64] (xs.getD i3.toNat [])) (Tr.br (decide (500 < ((xs.getD i3.toNat []).tail.headD C.pnil).i)) (Tr.leaf (R.x x82_0x0)) (Tr.chk (decide (0 ≤ i3)) (Tr.chk true (Tr.chk (decide (i3.toNat < xs.length)) (Tr.chk (shOk [Sk.str, Sk.int IntKind.i64, Sk.int IntKind.i64] (xs.getD i3.toNat [])) (Tr.br (decide (((xs.getD i3.toNat []).tail.tail.headD C.pnil).i < 1)) (Tr.leaf (R.x x82_0x0)) (Tr.chk (decide (0 ≤ i3)) (Tr.chk true (Tr.chk (decide (i3.toNat < xs.length)) (Tr.chk (shOk [Sk.str, Sk.int IntKind.i64, Sk.int IntKind.i64] (xs.getD i3.toNat [])) (Tr.br (decide (3 < ((xs.getD i3.toNat []).tail.tail.headD C.pnil).i)) (Tr.leaf (R.x x82_0x0)) (Tr.br (decide (0 < i3)) (Tr.chk (decide (0 ≤ IntKind.i64.wrap (i3 - 1))) (Tr.chk true (Tr.chk (decide ((IntKind.i64.wrap (i3 - 1)).toNat < xs.length)) (Tr.chk (shOk [Sk.str, Sk.int IntKind.i64, Sk.int IntKind.i64] (xs.getD (IntKind.i64.wrap (i3 - 1)).toNat [])) (Tr.chk (decide (0 ≤ i3)) (Tr.chk true (Tr.chk (decide (i3.toNat < xs.length)) (Tr.chk (shOk [Sk.str, Sk.int IntKind.i64, Sk.int IntKind.i64] (xs.getD i3.toNat [])) (Tr.br (!lessP { p := ((xs.getD (IntKind.i64.wrap (i3 - 1)).toNat []).headD C.pnil).st, c := ((xs.getD (IntKind.i64.wrap (i3 - 1)).toNat []).tail.headD C.pnil).i, k := ((xs.getD (IntKind.i64.wrap (i3 - 1)).toNat []).tail.tail.headD C.pnil).i } { p := ((xs.getD i3.toNat []).headD C.pnil).st, c := ((xs.getD i3.toNat []).tail.headD C.pnil).i, k := ((xs.getD i3.toNat []).tail.tail.headD C.pnil).i }) (Tr.leaf (R.x x82_0x0)) (Tr.leaf (R.s (s82_0 nl tt xs (IntKind.i64.wrap (i3 + 1)))))))))))))) (Tr.leaf (R.s (s82_0 nl tt xs (IntKind.i64.wrap (i3 + 1))))))))))))))))))))))))))))))) (Tr.leaf (R.x (x82_0x1 nl tt xs i3)))) := by kernel_rfl
theorem k82_0x0 : p82.fkx 0 x82_0x0 = (Tr.leaf (R.out [V.c (C.bool false)] [])) := by kernel_rfl
theorem k82_0x1 (nl : Option Bool) (tt : Bool) (xs : List (List C)) (i3 : Int) : p82.fkx 0 (x82_0x1 nl tt xs i3) = (Tr.leaf (R.out [V.c (C.bool true)] [])) := by kernel_rfl
theorem t82 (nl : Option Bool) (tt : Bool) (xs : List (List C)) : p82.ft ([V.c (C.sl 3 nl tt xs)]) ([]) = (Tr.ls 0 (s82_0 nl tt xs (0))) := by kernel_rfl
noncomputable abbrev p42 : Par := par E sh (ctOf []) 42 2 0
abbrev s42_0 (nl : Option Bool) (tt : Bool) (xs : List (List C)) (nl2 : Option Bool) (t2 : Bool) (ys : List (List C)) (i5 : Int) : Fr × Hp := ([(0, V.c (C.sl 3 nl tt xs)), (1, V.c (C.sl 3 nl2 t2 ys)), (5, V.c (C.int IntKind.i64 i5))], [])
noncomputable abbrev b42_0 : Code := loopAt (codeOf p42.E p42.g) 0
abbrev x42_0x0 : Ex × Fr × Hp := (Ex.ret, [(4, V.c (C.bool false))], [])
abbrev x42_0x1 (nl : Option Bool) (tt : Bool) (xs : List (List C)) (nl2 : Option Bool) (t2 : Bool) (ys : List (List C)) (i5 : Int) : Ex × Fr × Hp := (Ex.exit 0, [(0, V.c (C.sl 3 nl tt xs)), (1, V.c (C.sl 3 nl2 t2 ys)), (5, V.c (C.int IntKind.i64 i5)), (14, V.c (C.bool false))], [])
theorem t42_0 (nl : Option Bool) (tt : Bool) (xs : List (List C)) (nl2 : Option Bool) (t2 : Bool) (ys : List (List C)) (i5 : Int) : p42.lts b42_0 (s42_0 nl tt xs nl2 t2 ys i5) = (Tr.br (decide (i5 < (↑xs.length : Int))) (Tr.chk (decide (0 ≤ i5)) (Tr.chk true (Tr.chk (decide (i5.toNat < xs.length)) (Tr.chk (shOk [Sk.str, Sk.int IntKind.i64, Sk.int IntKind.i64] (xs.getD i5.toNat [])) (Tr.chk (decide (0 ≤ i5)) (Tr.chk true (Tr.chk (decide (i5.toNat < ys.length)) (Tr.chk (shOk [Sk.str, Sk.int IntKind.i64, Sk.int IntKind.i64] (ys.getD i5.toNat [])) (Tr.br (!(((xs.getD i5.toNat []).headD C.pnil).st == ((ys.getD i5.toNat []).headD C.pnil).st && (((xs.getD i5.toNat []).tail.headD C.pnil).i == ((ys.getD i5.toNat []).tail.headD C.pnil).i && (((xs.getD i5.toNat []).tail.tail.headD C.pnil).i == ((ys.getD i5.toNat []).tail.tail.headD C.pnil).i && true)))) (Tr.leaf (R.x x42_0x0)) (Tr.leaf (R.s (s42_0 nl tt xs nl2 t2 ys (IntKind.i64.wrap (i5 + 1)))))))))))))) (Tr.leaf (R.x (x42_0x1 nl tt xs nl2 t2 ys i5)))) := by kernel_rfl
theorem k42_0x0 : p42.fkx 0 x42_0x0 = (Tr.leaf (R.out [V.c (C.bool false)] [])) := by kernel_rfl
theorem k42_0x1 (nl : Option Bool) (tt : Bool) (xs : List (List C)) (nl2 : Option Bool) (t2 : Bool) (ys : List (List C)) (i5 : Int) : p42.fkx 0 (x42_0x1 nl tt xs nl2 t2 ys i5) = (Tr.leaf (R.out [V.c (C.bool true)] [])) := by kernel_rfl
theorem t42 (nl : Option Bool) (tt : Bool) (xs : List (List C)) (nl2 : Option Bool) (t2 : Bool) (ys : List (List C)) : p42.ft ([V.c (C.sl 3 nl tt xs), V.c (C.sl 3 nl2 t2 ys)]) ([]) = (Tr.br ((↑xs.length : Int) != (↑ys.length : Int)) (Tr.leaf (R.out [V.c (C.bool false)] [])) (Tr.ls 0 (s42_0 nl tt xs nl2 t2 ys (0)))) := by kernel_rfl
end Go.Proofs.YtbilmkcdhodenaaDoor

end

/-
  Chapter 13 (posting): Word, is, order, less, Check, the same.
-/
section
namespace Go.Proofs.YtbilmkcdhodenaaDoor
open Go Go.Ev

theorem psts_ex {xs : List (List C)} (h : isPsts xs = true) : ∃ l, xs = psts l := ⟨_, psts_of h⟩
theorem rows_ex {xs : List (List C)} (h : isRows xs = true) : ∃ l, xs = rows l := ⟨_, rows_of h⟩
theorem chgs_ex {xs : List (List C)} (h : isChgs xs = true) : ∃ l, xs = chgs l := ⟨_, chgs_of h⟩
theorem ints_ex {xs : List (List C)} (h : isInts xs = true) : ∃ l, xs = ints l := ⟨_, ints_of h⟩

theorem f45 (k : Int) : call E 45 [V.i k] [] = some ([.c (.str (wordP k))], []) := by
  refine call_of (E := E) (sh := sh) (ct := ctOf []) (na := 1) (m := 0) ctOf_nil rfl rfl rfl rfl rfl rfl ?_
  rw [t45]; simp only [ld_br, ld_chk', ld_leaf, fd_br, fd_chk', fd_leaf, decide_true, decide_eq_true_eq, if_true, Int.toNat_natCast, Int.natCast_nonneg, Int.ofNat_lt, Int.ofNat_le, Bool.false_eq_true, if_false, bne_iff_ne, beq_iff_eq, ne_eq, not_true_eq_false, not_false_eq_true, Bool.not_eq_true', decide_eq_false_iff_not, reduceCtorEq, rows_length, pcs_length, er_ok, er_ok', ep_ok, ep_ok', dr_er, dp_ep, isRows_rows, isPcs_pcs, toRows_rows, toPcs_pcs, rows_take, rows_drop, pcs_take, pcs_drop, rows_append, pcs_append, ints_length, isInts_ints, toInts_ints, ei_i, ei_ok, mk_headD, ints_take, ints_drop, ints_append, ints_snoc, ints_snoc', List.take_length, Nat.zero_add, Nat.le_refl, er_a, er_b, er_k, er_n, er_s, er_v, ep_a, ep_b, ep_hk, ep_hn, ep_hs, ep_wk, ep_wn, ep_ws, wordP]
  repeat' split
  all_goals rfl
theorem f46 (k : Int) : call E 46 [V.i k] [] = some ([.c (.str (wordP k))], []) := by
  refine call_of (E := E) (sh := sh) (ct := ctOf []) (na := 1) (m := 0) ctOf_nil rfl rfl rfl rfl rfl rfl ?_
  rw [t46]; simp only [ld_br, ld_chk', ld_leaf, fd_br, fd_chk', fd_leaf, decide_true, decide_eq_true_eq, if_true, Int.toNat_natCast, Int.natCast_nonneg, Int.ofNat_lt, Int.ofNat_le, Bool.false_eq_true, if_false, bne_iff_ne, beq_iff_eq, ne_eq, not_true_eq_false, not_false_eq_true, Bool.not_eq_true', decide_eq_false_iff_not, reduceCtorEq, rows_length, pcs_length, er_ok, er_ok', ep_ok, ep_ok', dr_er, dp_ep, isRows_rows, isPcs_pcs, toRows_rows, toPcs_pcs, rows_take, rows_drop, pcs_take, pcs_drop, rows_append, pcs_append, ints_length, isInts_ints, toInts_ints, ei_i, ei_ok, mk_headD, ints_take, ints_drop, ints_append, ints_snoc, ints_snoc', List.take_length, Nat.zero_add, Nat.le_refl, er_a, er_b, er_k, er_n, er_s, er_v, ep_a, ep_b, ep_hk, ep_hn, ep_hs, ep_wk, ep_wn, ep_ws, wordP]
  repeat' split
  all_goals rfl
theorem isPath_len {s : List UInt8} (h : s ≠ []) : isPath s = decide ((s.length : Int) ≤ 24) := by
  simp only [isPath, h, ne_eq, not_false_eq_true, decide_true, Bool.true_and]
  rw [decide_eq_decide]; omega
theorem f84 (s : List UInt8) : call E 84 [.c (.str s)] [] = some ([V.b (isPath s)], []) := by
  refine call_of (E := E) (sh := sh) (ct := ctOf []) (na := 1) (m := 0) ctOf_nil rfl rfl rfl rfl rfl rfl ?_
  rw [t84]; simp only [ld_br, ld_chk', ld_leaf, fd_br, fd_chk', fd_leaf, decide_true, decide_eq_true_eq, if_true, Int.toNat_natCast, Int.natCast_nonneg, Int.ofNat_lt, Int.ofNat_le, Bool.false_eq_true, if_false, bne_iff_ne, beq_iff_eq, ne_eq, not_true_eq_false, not_false_eq_true, Bool.not_eq_true', decide_eq_false_iff_not, reduceCtorEq, rows_length, pcs_length, er_ok, er_ok', ep_ok, ep_ok', dr_er, dp_ep, isRows_rows, isPcs_pcs, toRows_rows, toPcs_pcs, rows_take, rows_drop, pcs_take, pcs_drop, rows_append, pcs_append, ints_length, isInts_ints, toInts_ints, ei_i, ei_ok, mk_headD, ints_take, ints_drop, ints_append, ints_snoc, ints_snoc', List.take_length, Nat.zero_add, Nat.le_refl, er_a, er_b, er_k, er_n, er_s, er_v, ep_a, ep_b, ep_hk, ep_hn, ep_hs, ep_wk, ep_wn, ep_ws]
  by_cases h : s = []
  · subst h; simp [isPath]
  · simp [h, isPath_len h]
theorem f89 (s : List UInt8) : call E 89 [.c (.str s)] [] = some ([V.b (isPath s)], []) := by
  refine call_of (E := E) (sh := sh) (ct := ctOf []) (na := 1) (m := 0) ctOf_nil rfl rfl rfl rfl rfl rfl ?_
  rw [t89]; simp only [ld_br, ld_chk', ld_leaf, fd_br, fd_chk', fd_leaf, decide_true, decide_eq_true_eq, if_true, Int.toNat_natCast, Int.natCast_nonneg, Int.ofNat_lt, Int.ofNat_le, Bool.false_eq_true, if_false, bne_iff_ne, beq_iff_eq, ne_eq, not_true_eq_false, not_false_eq_true, Bool.not_eq_true', decide_eq_false_iff_not, reduceCtorEq, rows_length, pcs_length, er_ok, er_ok', ep_ok, ep_ok', dr_er, dp_ep, isRows_rows, isPcs_pcs, toRows_rows, toPcs_pcs, rows_take, rows_drop, pcs_take, pcs_drop, rows_append, pcs_append, ints_length, isInts_ints, toInts_ints, ei_i, ei_ok, mk_headD, ints_take, ints_drop, ints_append, ints_snoc, ints_snoc', List.take_length, Nat.zero_add, Nat.le_refl, er_a, er_b, er_k, er_n, er_s, er_v, ep_a, ep_b, ep_hk, ep_hn, ep_hs, ep_wk, ep_wn, ep_ws]
  by_cases h : s = []
  · subst h; simp [isPath]
  · have h1 : 1 ≤ (s.length : Int) := by have := List.length_pos_iff.2 h; omega
    simp [h1, isPath_len h]
theorem s169_ok : CSpecOk E 169 s169 := by
  intro a h cs vals h' he hc
  unfold s169 at he
  split at he <;> simp only [Option.some.injEq, Prod.mk.injEq, reduceCtorEq] at he
  obtain ⟨rfl, rfl, rfl⟩ := he
  refine call_of (E := E) (sh := sh) (ct := ctOf []) (na := 1) (m := 0) ctOf_nil rfl rfl rfl rfl rfl rfl ?_
  rw [t169]; simp [fd_leaf]
theorem f127 (a b : Int) : call E 127 [V.i a, V.i b] [] = some ([V.i (cmpI a b)], []) := by
  refine call_of (E := E) (sh := sh) (ct := ctOf [(169, s169)]) (na := 2) (m := 0) (ctOf_cons s169_ok ctOf_nil) rfl rfl rfl rfl rfl rfl ?_
  rw [t127]; simp only [ld_br, ld_chk', ld_leaf, fd_br, fd_chk', fd_leaf, decide_true, decide_eq_true_eq, if_true, Int.toNat_natCast, Int.natCast_nonneg, Int.ofNat_lt, Int.ofNat_le, Bool.false_eq_true, if_false, bne_iff_ne, beq_iff_eq, ne_eq, not_true_eq_false, not_false_eq_true, Bool.not_eq_true', decide_eq_false_iff_not, reduceCtorEq, rows_length, pcs_length, er_ok, er_ok', ep_ok, ep_ok', dr_er, dp_ep, isRows_rows, isPcs_pcs, toRows_rows, toPcs_pcs, rows_take, rows_drop, pcs_take, pcs_drop, rows_append, pcs_append, ints_length, isInts_ints, toInts_ints, ei_i, ei_ok, mk_headD, ints_take, ints_drop, ints_append, ints_snoc, ints_snoc', List.take_length, Nat.zero_add, Nat.le_refl, er_a, er_b, er_k, er_n, er_s, er_v, ep_a, ep_b, ep_hk, ep_hn, ep_hs, ep_wk, ep_wn, ep_ws, cmpI]
  repeat' split
  all_goals rfl
theorem s127_ok : CSpecOk E 127 s127 := by
  intro a h cs vals h' he hc
  unfold s127 at he
  split at he <;> simp only [Option.some.injEq, Prod.mk.injEq, reduceCtorEq] at he
  obtain ⟨rfl, rfl, rfl⟩ := he
  exact f127 _ _
theorem f81 (x y : Pst) : call E 81 [VO x, VO y] [] = some ([V.i (orderP x y)], []) := by
  obtain ⟨p, c, k⟩ := x
  obtain ⟨p2, c2, k2⟩ := y
  refine call_of (E := E) (sh := sh) (ct := ctOf [(126, s126), (127, s127)]) (na := 2) (m := 0) (ctOf_cons s126_ok (ctOf_cons s127_ok ctOf_nil)) rfl rfl rfl rfl rfl rfl ?_
  rw [t81]; simp only [ld_br, ld_chk', ld_leaf, fd_br, fd_chk', fd_leaf, decide_true, decide_eq_true_eq, if_true, Int.toNat_natCast, Int.natCast_nonneg, Int.ofNat_lt, Int.ofNat_le, Bool.false_eq_true, if_false, bne_iff_ne, beq_iff_eq, ne_eq, not_true_eq_false, not_false_eq_true, Bool.not_eq_true', decide_eq_false_iff_not, reduceCtorEq, rows_length, pcs_length, er_ok, er_ok', ep_ok, ep_ok', dr_er, dp_ep, isRows_rows, isPcs_pcs, toRows_rows, toPcs_pcs, rows_take, rows_drop, pcs_take, pcs_drop, rows_append, pcs_append, ints_length, isInts_ints, toInts_ints, ei_i, ei_ok, mk_headD, ints_take, ints_drop, ints_append, ints_snoc, ints_snoc', List.take_length, Nat.zero_add, Nat.le_refl, er_a, er_b, er_k, er_n, er_s, er_v, ep_a, ep_b, ep_hk, ep_hn, ep_hs, ep_wk, ep_wn, ep_ws, orderP]
  split <;> rfl
theorem f83 (x y : Pst) : call E 83 [VO x, VO y] [] = some ([V.b (lessP x y)], []) := by
  obtain ⟨p, c, k⟩ := x
  obtain ⟨p2, c2, k2⟩ := y
  refine call_of (E := E) (sh := sh) (ct := ctOf []) (na := 2) (m := 0) ctOf_nil rfl rfl rfl rfl rfl rfl ?_
  rw [t83]; simp only [ld_br, ld_chk', ld_leaf, fd_br, fd_chk', fd_leaf, decide_true, decide_eq_true_eq, if_true, Int.toNat_natCast, Int.natCast_nonneg, Int.ofNat_lt, Int.ofNat_le, Bool.false_eq_true, if_false, bne_iff_ne, beq_iff_eq, ne_eq, not_true_eq_false, not_false_eq_true, Bool.not_eq_true', decide_eq_false_iff_not, reduceCtorEq, rows_length, pcs_length, er_ok, er_ok', ep_ok, ep_ok', dr_er, dp_ep, isRows_rows, isPcs_pcs, toRows_rows, toPcs_pcs, rows_take, rows_drop, pcs_take, pcs_drop, rows_append, pcs_append, ints_length, isInts_ints, toInts_ints, ei_i, ei_ok, mk_headD, ints_take, ints_drop, ints_append, ints_snoc, ints_snoc', List.take_length, Nat.zero_add, Nat.le_refl, er_a, er_b, er_k, er_n, er_s, er_v, ep_a, ep_b, ep_hk, ep_hn, ep_hs, ep_wk, ep_wn, ep_ws, lessP]
  cases h : Op.bytesLess p p2
  · by_cases h2 : p = p2 <;> simp [h2]
  · simp
theorem s45_ok : CSpecOk E 45 s45 := by
  intro a h cs vals h' he hc
  unfold s45 at he
  split at he <;> simp only [Option.some.injEq, Prod.mk.injEq, reduceCtorEq] at he
  obtain ⟨rfl, rfl, rfl⟩ := he
  exact f45 _
theorem s84_ok : CSpecOk E 84 s84 := by
  intro a h cs vals h' he hc
  unfold s84 at he
  split at he <;> simp only [Option.some.injEq, Prod.mk.injEq, reduceCtorEq] at he
  obtain ⟨rfl, rfl, rfl⟩ := he
  exact f84 _
theorem s84_ok' : CSpecOk E 89 s84 := by
  intro a h cs vals h' he hc
  unfold s84 at he
  split at he <;> simp only [Option.some.injEq, Prod.mk.injEq, reduceCtorEq] at he
  obtain ⟨rfl, rfl, rfl⟩ := he
  exact f89 _
theorem s81_ok : CSpecOk E 81 s81 := by
  intro a h cs vals h' he hc
  unfold s81 at he
  split at he <;> simp only [Option.some.injEq, Prod.mk.injEq, reduceCtorEq] at he
  obtain ⟨rfl, rfl, rfl⟩ := he
  exact f81 ⟨_, _, _⟩ ⟨_, _, _⟩
theorem s83_ok : CSpecOk E 83 s83 := by
  intro a h cs vals h' he hc
  unfold s83 at he
  split at he <;> simp only [Option.some.injEq, Prod.mk.injEq, reduceCtorEq] at he
  obtain ⟨rfl, rfl, rfl⟩ := he
  exact f83 ⟨_, _, _⟩ ⟨_, _, _⟩
theorem word_nil (k : Int) : (wordP k = []) = ¬ (1 ≤ k ∧ k ≤ 3) := by
  unfold wordP
  rw [eq_iff_iff]
  by_cases h1 : k = 1
  · simp [h1]
  · by_cases h2 : k = 2
    · simp [h2]
    · by_cases h3 : k = 3
      · simp [h3]
      · simp [h1, h2, h3]; omega
theorem okOne_iff (x : Pst) : okOne x = true ↔ isPath x.p = true ∧ 1 ≤ x.c ∧ x.c ≤ 500 ∧ 1 ≤ x.k ∧ x.k ≤ 3 := by simp [okOne, and_assoc]
def prevO (l : List Pst) (k : Nat) : Option Pst := if k = 0 then none else l[k - 1]?
theorem prevO_succ {l : List Pst} {k : Nat} (h : k < l.length) : prevO l (k + 1) = some l[k] := by simp [prevO, h]
theorem okFrom_cons (p : Option Pst) (x : Pst) (r : List Pst) : okFromP p (x :: r) = ((okOne x && (match p with | none => true | some w => lessP w x)) && okFromP (some x) r) := by
  cases p <;> rfl
theorem order_ge (a b : Pst) : (0 ≤ orderP a b) = (lessP a b = false) := by
  rw [eq_iff_iff, ← Bool.not_eq_true, ← orderP_neg]; omega
theorem pst_eta (x : Pst) : (⟨x.p, x.c, x.k⟩ : Pst) = x := rfl
theorem f43 (l : List Pst) (nl : Option Bool) (tt : Bool) (hl : l.length < 4294967296) : call E 43 [.c (.sl 3 nl tt (psts l))] [] = some ([V.i (checkP l)], []) := by
  have hct : (ctOf [(84, s84), (45, s45), (81, s81)]).ok E := ctOf_cons s84_ok (ctOf_cons s45_ok (ctOf_cons s81_ok ctOf_nil))
  refine call_of (E := E) (sh := sh) (ct := ctOf [(84, s84), (45, s45), (81, s81)]) (na := 1) (m := 0) hct rfl rfl rfl rfl rfl rfl ?_
  rw [t43, psts_length]
  refine fd_post hct (by kernel_rfl) rfl (list_post hct (b := b43_0) l.length (fun k (_ : Unit) => s43_0 nl tt (psts l) l.length k) (fun k _ => okFromP (prevO l k) (l.drop k) = okP l) _ ?_ ?_ 0 (Nat.zero_le _) () rfl)
  · rintro k _ hk hi
    rw [List.drop_eq_getElem_cons hk, okFrom_cons] at hi
    rw [t43_0]
    simp only [psts_length, eo_ok, eo_ok', isPsts_psts, toPsts_psts, psts_take, psts_drop, psts_append, psts_snoc, psts_snoc', eo_p, eo_c, eo_k, eo_len, toPsts_length, dO_eo, eo_mk, ld_br, ld_chk', ld_leaf, fd_br, fd_chk', fd_leaf, decide_true, decide_eq_true_eq, if_true, Int.toNat_natCast, Int.natCast_nonneg, Int.ofNat_lt, Int.ofNat_le, Bool.false_eq_true, if_false, bne_iff_ne, beq_iff_eq, ne_eq, not_true_eq_false, not_false_eq_true, Bool.not_eq_true', decide_eq_false_iff_not, reduceCtorEq, rows_length, pcs_length, er_ok, er_ok', ep_ok, ep_ok', dr_er, dp_ep, isRows_rows, isPcs_pcs, toRows_rows, toPcs_pcs, rows_take, rows_drop, pcs_take, pcs_drop, rows_append, pcs_append, ints_length, isInts_ints, toInts_ints, ei_i, ei_ok, mk_headD, ints_take, ints_drop, ints_append, ints_snoc, ints_snoc', List.take_length, Nat.zero_add, Nat.le_refl, er_a, er_b, er_k, er_n, er_s, er_v, ep_a, ep_b, ep_hk, ep_hn, ep_hs, ep_wk, ep_wn, ep_ws, hk, psts_getD hk, wrap_succ (show k < 9223372036854775807 by omega), word_nil, order_ge, pst_eta]
    have ex0 : ∀ (s : List UInt8) (c d : Int), okP l = false → p43.fd (p43.fkx 0 (x43_0x0 s c d)) = some (.out [V.i (checkP l)] []) := fun s c d h => by rw [k43_0x0, fd_leaf, checkP, h]; rfl
    by_cases g0 : okOne l[k] = true
    · obtain ⟨a1, a2, a3, a4, a5⟩ := (okOne_iff _).1 g0
      have b2 : ¬ l[k].c < 1 := by omega
      have b3 : ¬ 500 < l[k].c := by omega
      simp only [a1, b2, b3, a4, a5, if_false, if_true, Bool.true_eq_false, not_true_eq_false, and_self]
      rw [g0, Bool.true_and] at hi
      cases k with
      | zero => exact .inl ⟨(), by rw [← hi, prevO_succ hk]; rfl, by simp⟩
      | succ k =>
        have hk' : k < l.length := by omega
        rw [prevO_succ hk'] at hi
        simp only at hi
        simp only [wrap_pred (show 0 < k + 1 by omega) (show k + 1 < 9223372036854775807 by omega), Nat.add_sub_cancel, psts_length, eo_ok, eo_ok', isPsts_psts, toPsts_psts, psts_take, psts_drop, psts_append, psts_snoc, psts_snoc', eo_p, eo_c, eo_k, eo_len, toPsts_length, dO_eo, eo_mk, ld_br, ld_chk', ld_leaf, fd_br, fd_chk', fd_leaf, decide_true, decide_eq_true_eq, if_true, Int.toNat_natCast, Int.natCast_nonneg, Int.ofNat_lt, Int.ofNat_le, Bool.false_eq_true, if_false, bne_iff_ne, beq_iff_eq, ne_eq, not_true_eq_false, not_false_eq_true, Bool.not_eq_true', decide_eq_false_iff_not, reduceCtorEq, rows_length, pcs_length, er_ok, er_ok', ep_ok, ep_ok', dr_er, dp_ep, isRows_rows, isPcs_pcs, toRows_rows, toPcs_pcs, rows_take, rows_drop, pcs_take, pcs_drop, rows_append, pcs_append, ints_length, isInts_ints, toInts_ints, ei_i, ei_ok, mk_headD, ints_take, ints_drop, ints_append, ints_snoc, ints_snoc', List.take_length, Nat.zero_add, Nat.le_refl, er_a, er_b, er_k, er_n, er_s, er_v, ep_a, ep_b, ep_hk, ep_hn, ep_hs, ep_wk, ep_wn, ep_ws, hk', psts_getD hk', show (0 : Int) < ((k + 1 : Nat) : Int) by omega, pst_eta, order_ge]
        by_cases g1 : lessP l[k] l[k + 1] = true
        · rw [g1, Bool.true_and] at hi
          refine .inl ⟨(), by rw [← hi, prevO_succ hk], by simp [g1]⟩
        · rw [Bool.not_eq_true] at g1
          rw [g1, Bool.false_and] at hi
          exact .inr ⟨x43_0x0 l[k + 1].p l[k + 1].c l[k + 1].k, by simp, ex0 _ _ _ hi.symm, by simp only [g1, if_true]⟩
    · have g0' : okOne l[k] = false := by simpa using g0
      rw [g0', Bool.false_and, Bool.false_and] at hi
      refine .inr ⟨x43_0x0 l[k].p l[k].c l[k].k, by simp, ex0 _ _ _ hi.symm, ?_⟩
      by_cases c1 : isPath l[k].p = true
      · by_cases c2 : l[k].c < 1
        · simp only [c1, c2, if_true, Bool.true_eq_false, if_false]
        · by_cases c3 : 500 < l[k].c
          · simp only [c1, c2, c3, if_true, Bool.true_eq_false, if_false]
          · have c4 : ¬ (1 ≤ l[k].k ∧ l[k].k ≤ 3) := fun h => g0 ((okOne_iff _).2 ⟨c1, by omega, by omega, h.1, h.2⟩)
            simp only [c1, c2, c3, c4, if_true, Bool.true_eq_false, if_false, not_false_eq_true]
      · rw [Bool.not_eq_true] at c1
        simp only [c1, if_true]
  · rintro _ hi
    rw [List.drop_length, okFromP] at hi
    rw [t43_0]
    exact ⟨x43_0x1 nl tt (psts l) l.length l.length, by simp, by rw [k43_0x1, fd_leaf, checkP, ← hi]; rfl, by simp only [psts_length, eo_ok, eo_ok', isPsts_psts, toPsts_psts, psts_take, psts_drop, psts_append, psts_snoc, psts_snoc', eo_p, eo_c, eo_k, eo_len, toPsts_length, dO_eo, eo_mk, ld_br, ld_chk', ld_leaf, fd_br, fd_chk', fd_leaf, decide_true, decide_eq_true_eq, if_true, Int.toNat_natCast, Int.natCast_nonneg, Int.ofNat_lt, Int.ofNat_le, Bool.false_eq_true, if_false, bne_iff_ne, beq_iff_eq, ne_eq, not_true_eq_false, not_false_eq_true, Bool.not_eq_true', decide_eq_false_iff_not, reduceCtorEq, rows_length, pcs_length, er_ok, er_ok', ep_ok, ep_ok', dr_er, dp_ep, isRows_rows, isPcs_pcs, toRows_rows, toPcs_pcs, rows_take, rows_drop, pcs_take, pcs_drop, rows_append, pcs_append, ints_length, isInts_ints, toInts_ints, ei_i, ei_ok, mk_headD, ints_take, ints_drop, ints_append, ints_snoc, ints_snoc', List.take_length, Nat.zero_add, Nat.le_refl, er_a, er_b, er_k, er_n, er_s, er_v, ep_a, ep_b, ep_hk, ep_hn, ep_hs, ep_wk, ep_wn, ep_ws, Int.lt_irrefl]⟩
theorem f82 (l : List Pst) (nl : Option Bool) (tt : Bool) (hl : l.length < 4294967296) : call E 82 [.c (.sl 3 nl tt (psts l))] [] = some ([V.b (okP l)], []) := by
  have hct : (ctOf [(89, s84), (83, s83)]).ok E := ctOf_cons s84_ok' (ctOf_cons s83_ok ctOf_nil)
  refine call_of (E := E) (sh := sh) (ct := ctOf [(89, s84), (83, s83)]) (na := 1) (m := 0) hct rfl rfl rfl rfl rfl rfl ?_
  rw [t82]
  refine fd_post hct (by kernel_rfl) rfl (list_post hct (b := b82_0) l.length (fun k (_ : Unit) => s82_0 nl tt (psts l) k) (fun k _ => okFromP (prevO l k) (l.drop k) = okP l) _ ?_ ?_ 0 (Nat.zero_le _) () rfl)
  · rintro k _ hk hi
    rw [List.drop_eq_getElem_cons hk, okFrom_cons] at hi
    rw [t82_0]
    simp only [psts_length, eo_ok, eo_ok', isPsts_psts, toPsts_psts, psts_take, psts_drop, psts_append, psts_snoc, psts_snoc', eo_p, eo_c, eo_k, eo_len, toPsts_length, dO_eo, eo_mk, ld_br, ld_chk', ld_leaf, fd_br, fd_chk', fd_leaf, decide_true, decide_eq_true_eq, if_true, Int.toNat_natCast, Int.natCast_nonneg, Int.ofNat_lt, Int.ofNat_le, Bool.false_eq_true, if_false, bne_iff_ne, beq_iff_eq, ne_eq, not_true_eq_false, not_false_eq_true, Bool.not_eq_true', decide_eq_false_iff_not, reduceCtorEq, rows_length, pcs_length, er_ok, er_ok', ep_ok, ep_ok', dr_er, dp_ep, isRows_rows, isPcs_pcs, toRows_rows, toPcs_pcs, rows_take, rows_drop, pcs_take, pcs_drop, rows_append, pcs_append, ints_length, isInts_ints, toInts_ints, ei_i, ei_ok, mk_headD, ints_take, ints_drop, ints_append, ints_snoc, ints_snoc', List.take_length, Nat.zero_add, Nat.le_refl, er_a, er_b, er_k, er_n, er_s, er_v, ep_a, ep_b, ep_hk, ep_hn, ep_hs, ep_wk, ep_wn, ep_ws, hk, psts_getD hk, wrap_succ (show k < 9223372036854775807 by omega), pst_eta]
    have ex0 : okP l = false → p82.fd (p82.fkx 0 x82_0x0) = some (.out [V.b (okP l)] []) := fun h => by rw [k82_0x0, fd_leaf, h]
    by_cases g0 : okOne l[k] = true
    · obtain ⟨a1, a2, a3, a4, a5⟩ := (okOne_iff _).1 g0
      have b2 : ¬ l[k].c < 1 := by omega
      have b3 : ¬ 500 < l[k].c := by omega
      have b4 : ¬ l[k].k < 1 := by omega
      have b5 : ¬ 3 < l[k].k := by omega
      simp only [a1, b2, b3, b4, b5, if_false, if_true, Bool.true_eq_false, not_true_eq_false, and_self]
      rw [g0, Bool.true_and] at hi
      cases k with
      | zero => exact .inl ⟨(), by rw [← hi, prevO_succ hk]; rfl, by simp⟩
      | succ k =>
        have hk' : k < l.length := by omega
        rw [prevO_succ hk'] at hi
        simp only at hi
        simp only [wrap_pred (show 0 < k + 1 by omega) (show k + 1 < 9223372036854775807 by omega), Nat.add_sub_cancel, psts_length, eo_ok, eo_ok', isPsts_psts, toPsts_psts, psts_take, psts_drop, psts_append, psts_snoc, psts_snoc', eo_p, eo_c, eo_k, eo_len, toPsts_length, dO_eo, eo_mk, ld_br, ld_chk', ld_leaf, fd_br, fd_chk', fd_leaf, decide_true, decide_eq_true_eq, if_true, Int.toNat_natCast, Int.natCast_nonneg, Int.ofNat_lt, Int.ofNat_le, Bool.false_eq_true, if_false, bne_iff_ne, beq_iff_eq, ne_eq, not_true_eq_false, not_false_eq_true, Bool.not_eq_true', decide_eq_false_iff_not, reduceCtorEq, rows_length, pcs_length, er_ok, er_ok', ep_ok, ep_ok', dr_er, dp_ep, isRows_rows, isPcs_pcs, toRows_rows, toPcs_pcs, rows_take, rows_drop, pcs_take, pcs_drop, rows_append, pcs_append, ints_length, isInts_ints, toInts_ints, ei_i, ei_ok, mk_headD, ints_take, ints_drop, ints_append, ints_snoc, ints_snoc', List.take_length, Nat.zero_add, Nat.le_refl, er_a, er_b, er_k, er_n, er_s, er_v, ep_a, ep_b, ep_hk, ep_hn, ep_hs, ep_wk, ep_wn, ep_ws, hk', psts_getD hk', show (0 : Int) < ((k + 1 : Nat) : Int) by omega, pst_eta]
        by_cases g1 : lessP l[k] l[k + 1] = true
        · rw [g1, Bool.true_and] at hi
          refine .inl ⟨(), by rw [← hi, prevO_succ hk], by simp [g1]⟩
        · rw [Bool.not_eq_true] at g1
          rw [g1, Bool.false_and] at hi
          exact .inr ⟨x82_0x0, by simp, ex0 hi.symm, by simp only [g1, if_true]⟩
    · have g0' : okOne l[k] = false := by simpa using g0
      rw [g0', Bool.false_and, Bool.false_and] at hi
      refine .inr ⟨x82_0x0, by simp, ex0 hi.symm, ?_⟩
      by_cases c1 : isPath l[k].p = true
      · by_cases c2 : l[k].c < 1
        · simp only [c1, c2, if_true, Bool.true_eq_false, if_false]
        · by_cases c3 : 500 < l[k].c
          · simp only [c1, c2, c3, if_true, Bool.true_eq_false, if_false]
          · by_cases c4 : l[k].k < 1
            · simp only [c1, c2, c3, c4, if_true, Bool.true_eq_false, if_false]
            · have c5 : 3 < l[k].k := by
                rcases Int.lt_or_le 3 l[k].k with h | h
                · exact h
                · exact absurd ((okOne_iff _).2 ⟨c1, by omega, by omega, by omega, h⟩) g0
              simp only [c1, c2, c3, c4, c5, if_true, Bool.true_eq_false, if_false]
      · rw [Bool.not_eq_true] at c1
        simp only [c1, if_true]
  · rintro _ hi
    rw [List.drop_length, okFromP] at hi
    rw [t82_0]
    exact ⟨x82_0x1 nl tt (psts l) l.length, by simp, by rw [k82_0x1, fd_leaf, ← hi], by simp only [psts_length, eo_ok, eo_ok', isPsts_psts, toPsts_psts, psts_take, psts_drop, psts_append, psts_snoc, psts_snoc', eo_p, eo_c, eo_k, eo_len, toPsts_length, dO_eo, eo_mk, ld_br, ld_chk', ld_leaf, fd_br, fd_chk', fd_leaf, decide_true, decide_eq_true_eq, if_true, Int.toNat_natCast, Int.natCast_nonneg, Int.ofNat_lt, Int.ofNat_le, Bool.false_eq_true, if_false, bne_iff_ne, beq_iff_eq, ne_eq, not_true_eq_false, not_false_eq_true, Bool.not_eq_true', decide_eq_false_iff_not, reduceCtorEq, rows_length, pcs_length, er_ok, er_ok', ep_ok, ep_ok', dr_er, dp_ep, isRows_rows, isPcs_pcs, toRows_rows, toPcs_pcs, rows_take, rows_drop, pcs_take, pcs_drop, rows_append, pcs_append, ints_length, isInts_ints, toInts_ints, ei_i, ei_ok, mk_headD, ints_take, ints_drop, ints_append, ints_snoc, ints_snoc', List.take_length, Nat.zero_add, Nat.le_refl, er_a, er_b, er_k, er_n, er_s, er_v, ep_a, ep_b, ep_hk, ep_hn, ep_hs, ep_wk, ep_wn, ep_ws, Nat.lt_irrefl]⟩
theorem pst_eqb (x y : Pst) : (x.p == y.p && (x.c == y.c && (x.k == y.k && true))) = decide (x = y) := by
  obtain ⟨a, b, c⟩ := x
  obtain ⟨a', b', c'⟩ := y
  rw [Bool.eq_iff_iff]
  simp
theorem f42 (l m : List Pst) (nl : Option Bool) (tt : Bool) (nl2 : Option Bool) (t2 : Bool) (hl : l.length < 4294967296) : call E 42 [.c (.sl 3 nl tt (psts l)), .c (.sl 3 nl2 t2 (psts m))] [] = some ([V.b (decide (l = m))], []) := by
  refine call_of (E := E) (sh := sh) (ct := ctOf []) (na := 2) (m := 0) ctOf_nil rfl rfl rfl rfl rfl rfl ?_
  rw [t42]
  simp only [psts_length, eo_ok, eo_ok', isPsts_psts, toPsts_psts, psts_take, psts_drop, psts_append, psts_snoc, psts_snoc', eo_p, eo_c, eo_k, eo_len, toPsts_length, dO_eo, eo_mk, ld_br, ld_chk', ld_leaf, fd_br, fd_chk', fd_leaf, decide_true, decide_eq_true_eq, if_true, Int.toNat_natCast, Int.natCast_nonneg, Int.ofNat_lt, Int.ofNat_le, Bool.false_eq_true, if_false, bne_iff_ne, beq_iff_eq, ne_eq, not_true_eq_false, not_false_eq_true, Bool.not_eq_true', decide_eq_false_iff_not, reduceCtorEq, rows_length, pcs_length, er_ok, er_ok', ep_ok, ep_ok', dr_er, dp_ep, isRows_rows, isPcs_pcs, toRows_rows, toPcs_pcs, rows_take, rows_drop, pcs_take, pcs_drop, rows_append, pcs_append, ints_length, isInts_ints, toInts_ints, ei_i, ei_ok, mk_headD, ints_take, ints_drop, ints_append, ints_snoc, ints_snoc', List.take_length, Nat.zero_add, Nat.le_refl, er_a, er_b, er_k, er_n, er_s, er_v, ep_a, ep_b, ep_hk, ep_hn, ep_hs, ep_wk, ep_wn, ep_ws]
  by_cases h : l.length = m.length
  · have h' : ¬ ¬ (l.length : Int) = m.length := by omega
    rw [if_neg h']
    refine fd_post ctOf_nil (by kernel_rfl) rfl (list_post ctOf_nil (b := b42_0) l.length (fun k (_ : Unit) => s42_0 nl tt (psts l) nl2 t2 (psts m) k) (fun k _ => l.take k = m.take k) _ ?_ ?_ 0 (Nat.zero_le _) () (by rfl))
    · intro k _ hk hi
      have hm : k < m.length := by omega
      rw [t42_0]
      simp only [psts_length, eo_ok, eo_ok', isPsts_psts, toPsts_psts, psts_take, psts_drop, psts_append, psts_snoc, psts_snoc', eo_p, eo_c, eo_k, eo_len, toPsts_length, dO_eo, eo_mk, ld_br, ld_chk', ld_leaf, fd_br, fd_chk', fd_leaf, decide_true, decide_eq_true_eq, if_true, Int.toNat_natCast, Int.natCast_nonneg, Int.ofNat_lt, Int.ofNat_le, Bool.false_eq_true, if_false, bne_iff_ne, beq_iff_eq, ne_eq, not_true_eq_false, not_false_eq_true, Bool.not_eq_true', decide_eq_false_iff_not, reduceCtorEq, rows_length, pcs_length, er_ok, er_ok', ep_ok, ep_ok', dr_er, dp_ep, isRows_rows, isPcs_pcs, toRows_rows, toPcs_pcs, rows_take, rows_drop, pcs_take, pcs_drop, rows_append, pcs_append, ints_length, isInts_ints, toInts_ints, ei_i, ei_ok, mk_headD, ints_take, ints_drop, ints_append, ints_snoc, ints_snoc', List.take_length, Nat.zero_add, Nat.le_refl, er_a, er_b, er_k, er_n, er_s, er_v, ep_a, ep_b, ep_hk, ep_hn, ep_hs, ep_wk, ep_wn, ep_ws, hk, hm, psts_getD hk, psts_getD hm, pst_eqb, wrap_succ (show k < 9223372036854775807 by omega)]
      by_cases he : l[k] = m[k]
      · left
        exact ⟨(), take_ext hi hk hm he, by simp [he]⟩
      · right
        refine ⟨x42_0x0, by simp, ?_, by simp [he]⟩
        rw [k42_0x0, fd_leaf, decide_eq_false (fun e => he (by subst e; rfl))]
    · intro _ hi
      rw [t42_0]
      refine ⟨x42_0x1 nl tt (psts l) nl2 t2 (psts m) l.length, by simp, ?_, by simp only [psts_length, eo_ok, eo_ok', isPsts_psts, toPsts_psts, psts_take, psts_drop, psts_append, psts_snoc, psts_snoc', eo_p, eo_c, eo_k, eo_len, toPsts_length, dO_eo, eo_mk, ld_br, ld_chk', ld_leaf, fd_br, fd_chk', fd_leaf, decide_true, decide_eq_true_eq, if_true, Int.toNat_natCast, Int.natCast_nonneg, Int.ofNat_lt, Int.ofNat_le, Bool.false_eq_true, if_false, bne_iff_ne, beq_iff_eq, ne_eq, not_true_eq_false, not_false_eq_true, Bool.not_eq_true', decide_eq_false_iff_not, reduceCtorEq, rows_length, pcs_length, er_ok, er_ok', ep_ok, ep_ok', dr_er, dp_ep, isRows_rows, isPcs_pcs, toRows_rows, toPcs_pcs, rows_take, rows_drop, pcs_take, pcs_drop, rows_append, pcs_append, ints_length, isInts_ints, toInts_ints, ei_i, ei_ok, mk_headD, ints_take, ints_drop, ints_append, ints_snoc, ints_snoc', List.take_length, Nat.zero_add, Nat.le_refl, er_a, er_b, er_k, er_n, er_s, er_v, ep_a, ep_b, ep_hk, ep_hn, ep_hs, ep_wk, ep_wn, ep_ws, Nat.lt_irrefl]⟩
      rw [List.take_length, h, List.take_length] at hi
      rw [k42_0x1, fd_leaf, decide_eq_true hi]
  · have h' : ¬ (l.length : Int) = m.length := by omega
    rw [if_pos h', decide_eq_false (fun e => h (by rw [e]))]
end Go.Proofs.YtbilmkcdhodenaaDoor

end
