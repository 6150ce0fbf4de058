/-
  Chapter 02 (span): trees, written by a program.
-/
import Derived.Test.YtbilmkcdhodenaaDoorAE
set_option linter.all false
set_option linter.unusedSimpArgs false
set_option linter.unusedVariables false
section
namespace Go.Proofs.YtbilmkcdhodenaaDoor
open Go Go.Ev
set_option pp.deepTerms true
set_option pp.maxSteps 1000000
set_option pp.funBinderTypes true
set_option pp.coercions.types true
noncomputable abbrev p197 : Par := par E sh (ctOf []) 197 2 0
abbrev s197_0 (s : List UInt8) (i : Int) (i6 : Int) (i7 : Int) (i8 : Int) (i9 : Int) : Fr × Hp := ([(0, V.c (C.str s)), (1, V.c (C.int IntKind.i64 i)), (6, V.c (C.int IntKind.i64 i6)), (7, V.c (C.int IntKind.i64 i7)), (8, V.c (C.int IntKind.i64 i8)), (9, V.c (C.int IntKind.i64 i9))], [])
noncomputable abbrev b197_0 : Code := loopAt (codeOf p197.E p197.g) 0
abbrev x197_0x0 : Ex × Fr × Hp := (Ex.ret, [(4, V.c (C.int IntKind.i64 0))], [])
abbrev x197_0x1 (s : List UInt8) (i : Int) (i6 : Int) (i7 : Int) (i8 : Int) (i9 : Int) : Ex × Fr × Hp := (Ex.exit 1, [(0, V.c (C.str s)), (1, V.c (C.int IntKind.i64 i)), (6, V.c (C.int IntKind.i64 i6)), (7, V.c (C.int IntKind.i64 i7)), (8, V.c (C.int IntKind.i64 i8)), (9, V.c (C.int IntKind.i64 i9)), (55, V.c (C.bool false))], [])
theorem t197_0 (s : List UInt8) (i : Int) (i6 : Int) (i7 : Int) (i8 : Int) (i9 : Int) : p197.lts b197_0 (s197_0 s i i6 i7 i8 i9) = (Tr.br (decide (i9 < i6)) (Tr.br (decide ((↑s.length : Int) ≤ IntKind.i64.wrap (i + i9))) (Tr.leaf (R.x x197_0x0)) (Tr.chk (decide (0 ≤ IntKind.i64.wrap (i + i9))) (Tr.chk (decide ((IntKind.i64.wrap (i + i9)).toNat < s.length)) (Tr.chk true (Tr.br (IntKind.i64.wrap ((IntKind.i64.wrap (↑(s.getD (IntKind.i64.wrap (i + i9)).toNat 0).toNat : Int)).tdiv 64) != 2) (Tr.leaf (R.x x197_0x0)) (Tr.chk (decide (0 ≤ IntKind.i64.wrap (i + i9))) (Tr.chk (decide ((IntKind.i64.wrap (i + i9)).toNat < s.length)) (Tr.chk true (Tr.leaf (R.s (s197_0 s i i6 (IntKind.i64.wrap (IntKind.i64.wrap (64 * i7) + (IntKind.i64.wrap (↑(s.getD (IntKind.i64.wrap (i + i9)).toNat 0).toNat : Int)).tmod 64)) i8 (IntKind.i64.wrap (i9 + 1))))))))))))) (Tr.leaf (R.x (x197_0x1 s i i6 i7 i8 i9)))) := by kernel_rfl
theorem k197_0x0 : p197.fkx 0 x197_0x0 = (Tr.leaf (R.out [V.c (C.int IntKind.i64 0)] [])) := by kernel_rfl
theorem k197_0x1 (s : List UInt8) (i : Int) (i6 : Int) (i7 : Int) (i8 : Int) (i9 : Int) : p197.fkx 0 (x197_0x1 s i i6 i7 i8 i9) = (Tr.br (decide (i7 < i8)) (Tr.leaf (R.out [V.c (C.int IntKind.i64 0)] [])) (Tr.br (decide (55296 ≤ i7)) (Tr.br (decide (i7 < 57344)) (Tr.leaf (R.out [V.c (C.int IntKind.i64 0)] [])) (Tr.br (decide (1114111 < i7)) (Tr.leaf (R.out [V.c (C.int IntKind.i64 0)] [])) (Tr.leaf (R.out [V.c (C.int IntKind.i64 i6)] [])))) (Tr.br (decide (1114111 < i7)) (Tr.leaf (R.out [V.c (C.int IntKind.i64 0)] [])) (Tr.leaf (R.out [V.c (C.int IntKind.i64 i6)] []))))) := by kernel_rfl
theorem t197 (s : List UInt8) (i : Int) : p197.ft ([V.c (C.str s), V.i i]) ([]) = (Tr.br (decide (i < 0)) (Tr.leaf (R.out [V.c (C.int IntKind.i64 0)] [])) (Tr.br (decide ((↑s.length : Int) ≤ i)) (Tr.leaf (R.out [V.c (C.int IntKind.i64 0)] [])) (Tr.chk (decide (0 ≤ i)) (Tr.chk (decide (i.toNat < s.length)) (Tr.br (decide (IntKind.i64.wrap (↑(s.getD i.toNat 0).toNat : Int) < 128)) (Tr.leaf (R.out [V.c (C.int IntKind.i64 1)] [])) (Tr.br (decide (192 ≤ IntKind.i64.wrap (↑(s.getD i.toNat 0).toNat : Int))) (Tr.br (decide (IntKind.i64.wrap (↑(s.getD i.toNat 0).toNat : Int) < 224)) (Tr.ls 0 (s197_0 s i (2) (IntKind.i64.wrap (IntKind.i64.wrap (↑(s.getD i.toNat 0).toNat : Int) - 192)) (128) (1))) (Tr.br (decide (224 ≤ IntKind.i64.wrap (↑(s.getD i.toNat 0).toNat : Int))) (Tr.br (decide (IntKind.i64.wrap (↑(s.getD i.toNat 0).toNat : Int) < 240)) (Tr.ls 0 (s197_0 s i (3) (IntKind.i64.wrap (IntKind.i64.wrap (↑(s.getD i.toNat 0).toNat : Int) - 224)) (2048) (1))) (Tr.br (decide (240 ≤ IntKind.i64.wrap (↑(s.getD i.toNat 0).toNat : Int))) (Tr.br (decide (IntKind.i64.wrap (↑(s.getD i.toNat 0).toNat : Int) < 248)) (Tr.ls 0 (s197_0 s i (4) (IntKind.i64.wrap (IntKind.i64.wrap (↑(s.getD i.toNat 0).toNat : Int) - 240)) (65536) (1))) (Tr.leaf (R.out [V.c (C.int IntKind.i64 0)] []))) (Tr.leaf (R.out [V.c (C.int IntKind.i64 0)] [])))) (Tr.br (decide (240 ≤ IntKind.i64.wrap (↑(s.getD i.toNat 0).toNat : Int))) (Tr.br (decide (IntKind.i64.wrap (↑(s.getD i.toNat 0).toNat : Int) < 248)) (Tr.ls 0 (s197_0 s i (4) (IntKind.i64.wrap (IntKind.i64.wrap (↑(s.getD i.toNat 0).toNat : Int) - 240)) (65536) (1))) (Tr.leaf (R.out [V.c (C.int IntKind.i64 0)] []))) (Tr.leaf (R.out [V.c (C.int IntKind.i64 0)] []))))) (Tr.br (decide (224 ≤ IntKind.i64.wrap (↑(s.getD i.toNat 0).toNat : Int))) (Tr.br (decide (IntKind.i64.wrap (↑(s.getD i.toNat 0).toNat : Int) < 240)) (Tr.ls 0 (s197_0 s i (3) (IntKind.i64.wrap (IntKind.i64.wrap (↑(s.getD i.toNat 0).toNat : Int) - 224)) (2048) (1))) (Tr.br (decide (240 ≤ IntKind.i64.wrap (↑(s.getD i.toNat 0).toNat : Int))) (Tr.br (decide (IntKind.i64.wrap (↑(s.getD i.toNat 0).toNat : Int) < 248)) (Tr.ls 0 (s197_0 s i (4) (IntKind.i64.wrap (IntKind.i64.wrap (↑(s.getD i.toNat 0).toNat : Int) - 240)) (65536) (1))) (Tr.leaf (R.out [V.c (C.int IntKind.i64 0)] []))) (Tr.leaf (R.out [V.c (C.int IntKind.i64 0)] [])))) (Tr.br (decide (240 ≤ IntKind.i64.wrap (↑(s.getD i.toNat 0).toNat : Int))) (Tr.br (decide (IntKind.i64.wrap (↑(s.getD i.toNat 0).toNat : Int) < 248)) (Tr.ls 0 (s197_0 s i (4) (IntKind.i64.wrap (IntKind.i64.wrap (↑(s.getD i.toNat 0).toNat : Int) - 240)) (65536) (1))) (Tr.leaf (R.out [V.c (C.int IntKind.i64 0)] []))) (Tr.leaf (R.out [V.c (C.int IntKind.i64 0)] [])))))))))) := by kernel_rfl
noncomputable abbrev p171 : Par := par E sh (ctOf [(196, s196)]) 171 1 0
theorem t171 (k : Int) (n : Int) (s : List UInt8) : p171.ft ([V.agg [V.i k, V.i n, V.c (C.str s)]]) ([]) = (Tr.br (k == 1) (Tr.br (s == []) (Tr.leaf (R.out [V.c (C.int IntKind.i64 0)] [])) (Tr.leaf (R.out [V.c (C.int IntKind.i64 2)] []))) (Tr.br (k == 2) (Tr.br (n == 0) (Tr.br (decide ((↑s.length : Int) ≤ 40)) (Tr.chk (decide (s.length < 4294967296)) (Tr.br (decide (0 ≤ runesL s)) (Tr.leaf (R.out [V.c (C.int IntKind.i64 0)] [])) (Tr.leaf (R.out [V.c (C.int IntKind.i64 2)] [])))) (Tr.leaf (R.out [V.c (C.int IntKind.i64 2)] []))) (Tr.leaf (R.out [V.c (C.int IntKind.i64 2)] []))) (Tr.leaf (R.out [V.c (C.int IntKind.i64 2)] [])))) := by kernel_rfl
noncomputable abbrev p170 : Par := par E sh (ctOf []) 170 2 0
theorem t170 (a : Int) (b : Int) : p170.ft ([V.i a, V.i b]) ([]) = (Tr.br (decide (0 ≤ a)) (Tr.br (decide (a < b)) (Tr.leaf (R.out [V.c (C.bool (decide (b ≤ 1099511627776)))] [])) (Tr.leaf (R.out [V.c (C.bool false)] []))) (Tr.leaf (R.out [V.c (C.bool false)] []))) := by kernel_rfl
noncomputable abbrev p135 : Par := par E sh (ctOf []) 135 2 0
theorem t135 (a : Int) (b : Int) : p135.ft ([V.i a, V.i b]) ([]) = (Tr.br (decide (0 ≤ a)) (Tr.br (decide (a < b)) (Tr.leaf (R.out [V.c (C.bool (decide (b ≤ 1099511627776)))] [])) (Tr.leaf (R.out [V.c (C.bool false)] []))) (Tr.leaf (R.out [V.c (C.bool false)] []))) := by kernel_rfl
noncomputable abbrev p174 : Par := par E sh (ctOf []) 174 2 0
theorem t174 (a : Int) (b : Int) (k : Int) (n : Int) (t : Int) (s : List UInt8) : p174.ft ([V.agg [V.i a, V.i b, V.i k, V.i n, V.c (C.str s)], V.i t]) ([]) = (Tr.br (decide (b ≤ t)) (Tr.leaf (R.out [V.c (C.int IntKind.i64 (-1))] [])) (Tr.leaf (R.out [V.c (C.int IntKind.i64 1)] []))) := by kernel_rfl
def s174 : CSpec := fun a h => match a, h with
  | [.agg [.c (.int .i64 a), .c (.int .i64 b), .c (.int .i64 k), .c (.int .i64 n), .c (.str s)], .c (.int .i64 t)], [] => some ([], [V.i (if b ≤ t then -1 else 1)], [])
  | _, _ => none
noncomputable abbrev p173 : Par := par E sh (ctOf [(174, s174)]) 173 3 0
abbrev s173_0 (nl : Option Bool) (tt : Bool) (xs : List (List C)) (t : Int) (i8 : Int) (i9 : Int) (i10 : Int) : Fr × Hp := ([(0, V.c (C.sl 5 nl tt xs)), (1, V.c (C.int IntKind.i64 t)), (2, V.fn 174 []), (8, V.c (C.int IntKind.i64 i8)), (9, V.c (C.int IntKind.i64 i9)), (10, V.c (C.int IntKind.i64 i10))], [])
noncomputable abbrev b173_0 : Code := loopAt (codeOf p173.E p173.g) 0
abbrev x173_0x0 (nl : Option Bool) (tt : Bool) (xs : List (List C)) (t : Int) (i8 : Int) (i9 : Int) (i10 : Int) : Ex × Fr × Hp := (Ex.exit 0, [(0, V.c (C.sl 5 nl tt xs)), (1, V.c (C.int IntKind.i64 t)), (2, V.fn 174 []), (8, V.c (C.int IntKind.i64 i8)), (9, V.c (C.int IntKind.i64 i9)), (10, V.c (C.int IntKind.i64 i10)), (17, V.c (C.bool false))], [])
theorem t173_0 (nl : Option Bool) (tt : Bool) (xs : List (List C)) (t : Int) (i8 : Int) (i9 : Int) (i10 : Int) : p173.lts b173_0 (s173_0 nl tt xs t i8 i9 i10) = (Tr.br (decide (i9 < i10)) (Tr.chk (decide (0 ≤ IntKind.i64.wrap (IntKind.u64.wrap (IntKind.i64.wrap (i9 + i10)) / 2 ^ min (Int.toNat 1) IntKind.u64.bits))) (Tr.chk true (Tr.chk (decide ((IntKind.i64.wrap (IntKind.u64.wrap (IntKind.i64.wrap (i9 + i10)) / 2 ^ min (Int.toNat 1) IntKind.u64.bits)).toNat < xs.length)) (Tr.chk (shOk [Sk.int IntKind.i64, Sk.int IntKind.i64, Sk.int IntKind.i64, Sk.int IntKind.i64, Sk.str] (xs.getD (IntKind.i64.wrap (IntKind.u64.wrap (IntKind.i64.wrap (i9 + i10)) / 2 ^ min (Int.toNat 1) IntKind.u64.bits)).toNat [])) (Tr.br (decide ((if ((xs.getD (IntKind.i64.wrap (IntKind.u64.wrap (IntKind.i64.wrap (i9 + i10)) / 2 ^ min (Int.toNat 1) IntKind.u64.bits)).toNat []).tail.headD C.pnil).i ≤ t then -1 else 1) < 0)) (Tr.leaf (R.s (s173_0 nl tt xs t i8 (IntKind.i64.wrap (IntKind.i64.wrap (IntKind.u64.wrap (IntKind.i64.wrap (i9 + i10)) / 2 ^ min (Int.toNat 1) IntKind.u64.bits) + 1)) i10))) (Tr.leaf (R.s (s173_0 nl tt xs t i8 i9 (IntKind.i64.wrap (IntKind.u64.wrap (IntKind.i64.wrap (i9 + i10)) / 2 ^ min (Int.toNat 1) IntKind.u64.bits)))))))))) (Tr.leaf (R.x (x173_0x0 nl tt xs t i8 i9 i10)))) := by kernel_rfl
theorem k173_0x0 (nl : Option Bool) (tt : Bool) (xs : List (List C)) (t : Int) (i8 : Int) (i9 : Int) (i10 : Int) : p173.fkx 0 (x173_0x0 nl tt xs t i8 i9 i10) = (Tr.br (decide (i9 < i8)) (Tr.chk (decide (0 ≤ i9)) (Tr.chk true (Tr.chk (decide (i9.toNat < xs.length)) (Tr.chk (shOk [Sk.int IntKind.i64, Sk.int IntKind.i64, Sk.int IntKind.i64, Sk.int IntKind.i64, Sk.str] (xs.getD i9.toNat [])) (Tr.leaf (R.out [V.c (C.int IntKind.i64 i9), V.c (C.bool ((if ((xs.getD i9.toNat []).tail.headD C.pnil).i ≤ t then -1 else 1) == 0))] [])))))) (Tr.leaf (R.out [V.c (C.int IntKind.i64 i9), V.c (C.bool false)] []))) := by kernel_rfl
theorem t173 (nl : Option Bool) (tt : Bool) (xs : List (List C)) (t : Int) : p173.ft ([V.c (C.sl 5 nl tt xs), V.i t, V.fn 174 []]) ([]) = (Tr.ls 0 (s173_0 nl tt xs t ((↑xs.length : Int)) (0) ((↑xs.length : Int)))) := by kernel_rfl
end Go.Proofs.YtbilmkcdhodenaaDoor

end

/-
  Chapter 02 (span): the first functions.
-/
section
namespace Go.Proofs.YtbilmkcdhodenaaDoor
open Go Go.Ev

theorem f170 (a b : Int) : call E 170 [V.i a, V.i b] [] = some ([V.b (isSpan a b)], []) := by
  refine call_of (E := E) (sh := sh) (ct := ctOf []) (na := 2) (m := 0) ctOf_nil rfl rfl rfl rfl rfl rfl ?_
  rw [t170]
  simp only [ld_br, ld_chk', ld_leaf, fd_br, fd_chk', fd_leaf, decide_true, decide_eq_true_eq, if_true, Int.toNat_natCast, Int.natCast_nonneg, Int.ofNat_lt, Bool.false_eq_true, if_false, bne_iff_ne, beq_iff_eq, ne_eq, not_true_eq_false, not_false_eq_true, Bool.not_eq_true', decide_eq_false_iff_not, reduceCtorEq, isSpan]
  by_cases h1 : 0 ≤ a <;> by_cases h2 : a < b <;> simp [h1, h2]
theorem f135 (a b : Int) : call E 135 [V.i a, V.i b] [] = some ([V.b (isSpan a b)], []) := by
  refine call_of (E := E) (sh := sh) (ct := ctOf []) (na := 2) (m := 0) ctOf_nil rfl rfl rfl rfl rfl rfl ?_
  rw [t135]
  simp only [ld_br, ld_chk', ld_leaf, fd_br, fd_chk', fd_leaf, decide_true, decide_eq_true_eq, if_true, Int.toNat_natCast, Int.natCast_nonneg, Int.ofNat_lt, Bool.false_eq_true, if_false, bne_iff_ne, beq_iff_eq, ne_eq, not_true_eq_false, not_false_eq_true, Bool.not_eq_true', decide_eq_false_iff_not, reduceCtorEq, isSpan]
  by_cases h1 : 0 ≤ a <;> by_cases h2 : a < b <;> simp [h1, h2]
theorem f171 (v : Val) : call E 171 [VV v] [] = some ([V.i (checkV v)], []) := by
  obtain ⟨k, n, s⟩ := v
  refine call_of (E := E) (sh := sh) (ct := ctOf [(196, s196)]) (na := 1) (m := 0) (ctOf_cons s196_ok ctOf_nil) rfl rfl rfl rfl rfl rfl ?_
  rw [t171]
  simp only [ld_br, ld_chk', ld_leaf, fd_br, fd_chk', fd_leaf, decide_true, decide_eq_true_eq, if_true, Int.toNat_natCast, Int.natCast_nonneg, Int.ofNat_lt, Bool.false_eq_true, if_false, bne_iff_ne, beq_iff_eq, ne_eq, not_true_eq_false, not_false_eq_true, Bool.not_eq_true', decide_eq_false_iff_not, reduceCtorEq, checkV]
  by_cases h1 : k = 1
  · subst h1
    by_cases h2 : s = [] <;> simp [h2]
  · by_cases h3 : k = 2
    · subst h3
      by_cases h4 : n = 0
      · by_cases h5 : s.length ≤ 40
        · have h6 : s.length < 4294967296 := by omega
          have h5' : (s.length : Int) ≤ 40 := by omega
          by_cases h7 : 0 ≤ runesL s <;> simp [h4, h5, h5', h6, h7]
        · have h5' : ¬ (s.length : Int) ≤ 40 := by omega
          simp [h4, h5, h5']
      · simp [h4]
    · simp [h1, h3]
end Go.Proofs.YtbilmkcdhodenaaDoor

end

/-
  Chapter 02 (span): the search, in plain Lean.
-/
section
namespace Go.Proofs.YtbilmkcdhodenaaDoor
open Go Go.Ev
theorem bs_end (l : List Row) (t : Int) (f : Nat) {lo hi : Nat} (h : ¬ lo < hi) : bs l t f lo hi = lo := by
  cases f with
  | zero => rfl
  | succ f => simp only [bs, if_neg h]
theorem bs_fuel (l : List Row) (t : Int) : ∀ (f g lo hi : Nat), hi - lo ≤ f → hi - lo ≤ g → bs l t f lo hi = bs l t g lo hi
  | 0, g, lo, hi, h1, h2 => by rw [bs_end l t 0 (by omega), bs_end l t g (by omega)]
  | f + 1, 0, lo, hi, h1, h2 => by rw [bs_end l t 0 (by omega), bs_end l t (f + 1) (by omega)]
  | f + 1, g + 1, lo, hi, h1, h2 => by
    simp only [bs]
    split
    · split
      · exact bs_fuel l t f g _ _ (by omega) (by omega)
      · exact bs_fuel l t f g _ _ (by omega) (by omega)
    · rfl
end Go.Proofs.YtbilmkcdhodenaaDoor

end

/-
  Chapter 02 (span): BinarySearchFunc.
-/
section
namespace Go.Proofs.YtbilmkcdhodenaaDoor
open Go Go.Ev

@[simp] theorem er_ok' (r : Row) : shOk [Sk.int .i64, Sk.int .i64, Sk.int .i64, Sk.int .i64, Sk.str] (er r) = true := rfl
theorem er_b (r : Row) (d : C) : ((er r).tail.headD d).i = r.b := rfl
theorem er_a (r : Row) (d : C) : ((er r).headD d).i = r.a := rfl
theorem getD_at {l : List Row} {i : Nat} (h : i < l.length) : l.getD i default = l[i] := by simp [List.getD_eq_getElem?_getD, h]

theorem s174_ok : CSpecOk E 174 s174 := by
  intro a h cs vals h' he hc
  unfold s174 at he
  split at he <;> simp only [Option.some.injEq, Prod.mk.injEq, reduceCtorEq] at he
  rename_i a b k n s t
  obtain ⟨rfl, rfl, rfl⟩ := he
  refine call_of (E := E) (sh := sh) (ct := ctOf []) (na := 2) (m := 0) ctOf_nil rfl rfl rfl rfl rfl rfl ?_
  rw [t174]
  simp only [ld_br, ld_chk', ld_leaf, fd_br, fd_chk', fd_leaf, decide_true, decide_eq_true_eq, if_true, Int.toNat_natCast, Int.natCast_nonneg, Int.ofNat_lt, Bool.false_eq_true, if_false, bne_iff_ne, beq_iff_eq, ne_eq, not_true_eq_false, not_false_eq_true, Bool.not_eq_true', decide_eq_false_iff_not, reduceCtorEq]
  by_cases h1 : b ≤ t <;> simp [h1]

theorem half_wrap {a b : Nat} (h : a + b ≤ 8589934592) : IntKind.wrap .i64 (IntKind.wrap .u64 (IntKind.wrap .i64 ((a : Int) + b)) / 2 ^ min (Int.toNat 1) (IntKind.bits .u64)) = (((a + b) / 2 : Nat) : Int) := by
  have e : (2 : Int) ^ min (Int.toNat 1) (IntKind.bits .u64) = 2 := rfl
  have e1 : IntKind.wrap .i64 ((a : Int) + b) = (a : Int) + b := wrap_same (by omega) (by omega)
  have e2 : IntKind.wrap .u64 ((a : Int) + b) = (a : Int) + b := by
    simp only [IntKind.wrap, IntKind.bits, IntKind.signed]
    simp; omega
  rw [e, e1, e2, wrap_same (by omega) (by omega)]
  omega

theorem f173 (l : List Row) (nl : Option Bool) (tt : Bool) (t : Int) (hl : l.length ≤ 4294967296) : call E 173 [.c (.sl 5 nl tt (rows l)), V.i t, .fn 174 []] [] = some ([V.i (bsF l t), V.b false], []) := by
  have hct : (ctOf [(174, s174)]).ok E := ctOf_cons s174_ok ctOf_nil
  refine call_of (E := E) (sh := sh) (ct := ctOf [(174, s174)]) (na := 3) (m := 0) hct rfl rfl rfl rfl rfl rfl ?_
  rw [t173, rows_length]
  have hloop := loops_of (p := p173) hct (b := b173_0) (ι := Nat × Nat) (fun i => s173_0 nl tt (rows l) t (l.length : Int) (i.1 : Int) (i.2 : Int)) (fun i => i.1 ≤ i.2 ∧ i.2 ≤ l.length) (fun i => i.2 - i.1)
    (fun i => x173_0x0 nl tt (rows l) t (l.length : Int) (bs l t (i.2 - i.1) i.1 i.2 : Int) (bs l t (i.2 - i.1) i.1 i.2 : Int)) (fun ⟨lo, hi⟩ ⟨h1, h2⟩ => by
      simp only at h1 h2 ⊢
      rw [t173_0]
      by_cases hlt : lo < hi
      · have hm : (lo + hi) / 2 < l.length := by omega
        left
        rw [half_wrap (by omega)]
        simp only [ld_br, ld_chk', ld_leaf, fd_br, fd_chk', fd_leaf, decide_true, decide_eq_true_eq, if_true, Int.toNat_natCast, Int.natCast_nonneg, Int.ofNat_lt, Bool.false_eq_true, if_false, bne_iff_ne, beq_iff_eq, ne_eq, not_true_eq_false, not_false_eq_true, Bool.not_eq_true', decide_eq_false_iff_not, reduceCtorEq, rows_length, rows_getD hm, Int.ofNat_lt, hlt, hm, er_ok', er_b]
        have hf : hi - lo = (hi - lo - 1) + 1 := by omega
        by_cases hb : l[(lo + hi) / 2].b ≤ t
        · refine ⟨((lo + hi) / 2 + 1, hi), ⟨by dsimp only; omega, h2⟩, by dsimp only; omega, ?_, ?_⟩
          · have : bs l t (hi - lo) lo hi = bs l t (hi - ((lo + hi) / 2 + 1)) ((lo + hi) / 2 + 1) hi := by
              rw [hf]
              simp only [bs, if_pos hlt, getD_at hm, if_pos hb]
              exact bs_fuel l t _ _ _ _ (by omega) (by omega)
            rw [this]
          · have e3 : IntKind.wrap .i64 ((((lo + hi) / 2 : Nat) : Int) + 1) = (((lo + hi) / 2 + 1 : Nat) : Int) := by
              rw [wrap_same (by omega) (by omega)]; omega
            rw [e3]
            simp [hb]
        · refine ⟨(lo, (lo + hi) / 2), ⟨by dsimp only; omega, by dsimp only; omega⟩, by dsimp only; omega, ?_, ?_⟩
          · have : bs l t (hi - lo) lo hi = bs l t ((lo + hi) / 2 - lo) lo ((lo + hi) / 2) := by
              rw [hf]
              simp only [bs, if_pos hlt, getD_at hm, if_neg hb]
              exact bs_fuel l t _ _ _ _ (by omega) (by omega)
            rw [this]
          · simp [hb]
      · obtain rfl : lo = hi := by omega
        right
        simp only [ld_br, ld_chk', ld_leaf, fd_br, fd_chk', fd_leaf, decide_true, decide_eq_true_eq, if_true, Int.toNat_natCast, Int.natCast_nonneg, Int.ofNat_lt, Bool.false_eq_true, if_false, bne_iff_ne, beq_iff_eq, ne_eq, not_true_eq_false, not_false_eq_true, Bool.not_eq_true', decide_eq_false_iff_not, reduceCtorEq]
        refine ⟨by simp, ?_⟩
        rw [if_neg (by omega), bs_end l t _ (by omega)]) (0, l.length) ⟨Nat.zero_le _, Nat.le_refl _⟩
  refine fd_ls hct (by kernel_rfl) hloop ?_ rfl
  show p173.fd (p173.fkx 0 (x173_0x0 nl tt (rows l) t (l.length : Int) (bsF l t : Int) (bsF l t : Int))) = _
  rw [k173_0x0]
  simp only [ld_br, ld_chk', ld_leaf, fd_br, fd_chk', fd_leaf, decide_true, decide_eq_true_eq, if_true, Int.toNat_natCast, Int.natCast_nonneg, Int.ofNat_lt, Bool.false_eq_true, if_false, bne_iff_ne, beq_iff_eq, ne_eq, not_true_eq_false, not_false_eq_true, Bool.not_eq_true', decide_eq_false_iff_not, reduceCtorEq, rows_length, Int.ofNat_lt]
  by_cases hr : bsF l t < l.length
  · simp only [hr, if_true, rows_getD hr, er_ok', er_b]
    by_cases hb : l[bsF l t].b ≤ t <;> simp [hb]
  · simp only [hr, if_false]
def s173 : CSpec := fun a h => match a, h with
  | [.c (.sl 5 nl tt xs), .c (.int .i64 t), .fn 174 []], [] => some ([isRows xs, decide (xs.length ≤ 4294967296)], [V.i (bsF (toRows xs) t), V.b false], [])
  | _, _ => none
theorem toRows_length (xs : List (List C)) : (toRows xs).length = xs.length := by simp [toRows]
theorem s173_ok : CSpecOk E 173 s173 := by
  intro a h cs vals h' he hc
  unfold s173 at he
  split at he <;> simp only [Option.some.injEq, Prod.mk.injEq, reduceCtorEq] at he
  rename_i nl tt xs t
  obtain ⟨rfl, rfl, rfl⟩ := he
  simp only [allT, Bool.and_eq_true, decide_eq_true_eq, and_true] at hc
  have := f173 (toRows xs) nl tt t (by rw [toRows_length]; exact hc.2)
  rwa [← rows_of hc.1] at this
end Go.Proofs.YtbilmkcdhodenaaDoor

end

/-
  Chapter 02 (span): trees, written by a program.
-/
section
namespace Go.Proofs.YtbilmkcdhodenaaDoor
open Go Go.Ev
set_option pp.deepTerms true
set_option pp.maxSteps 1000000
set_option pp.funBinderTypes true
set_option pp.coercions.types true
noncomputable abbrev p138 : Par := par E sh (ctOf [(173, s173)]) 138 2 0
theorem t138 (nl : Option Bool) (tt : Bool) (xs : List (List C)) (t : Int) : p138.ft ([V.c (C.sl 5 nl tt xs), V.i t]) ([]) = (Tr.chk (isRows xs) (Tr.chk (decide (xs.length ≤ 4294967296)) (Tr.br (decide ((↑(bsF (toRows xs) t) : Int) < (↑xs.length : Int))) (Tr.chk true (Tr.chk true (Tr.chk (decide ((↑(bsF (toRows xs) t) : Int).toNat < xs.length)) (Tr.chk (shOk [Sk.int IntKind.i64, Sk.int IntKind.i64, Sk.int IntKind.i64, Sk.int IntKind.i64, Sk.str] (xs.getD (↑(bsF (toRows xs) t) : Int).toNat [])) (Tr.br (decide (((xs.getD (↑(bsF (toRows xs) t) : Int).toNat []).headD C.pnil).i ≤ t)) (Tr.chk true (Tr.chk true (Tr.chk (decide ((↑(bsF (toRows xs) t) : Int).toNat < xs.length)) (Tr.chk (shOk [Sk.int IntKind.i64, Sk.int IntKind.i64, Sk.int IntKind.i64, Sk.int IntKind.i64, Sk.str] (xs.getD (↑(bsF (toRows xs) t) : Int).toNat [])) (Tr.leaf (R.out [V.agg [V.c (C.int IntKind.i64 ((xs.getD (↑(bsF (toRows xs) t) : Int).toNat []).tail.tail.headD C.pnil).i), V.c (C.int IntKind.i64 ((xs.getD (↑(bsF (toRows xs) t) : Int).toNat []).tail.tail.tail.headD C.pnil).i), V.c (C.str ((xs.getD (↑(bsF (toRows xs) t) : Int).toNat []).tail.tail.tail.tail.headD C.pnil).st)]] [])))))) (Tr.leaf (R.out [V.agg [V.c (C.int IntKind.i64 0), V.c (C.int IntKind.i64 0), V.c (C.str [])]] []))))))) (Tr.leaf (R.out [V.agg [V.c (C.int IntKind.i64 0), V.c (C.int IntKind.i64 0), V.c (C.str [])]] []))))) := by kernel_rfl
def s171 : CSpec := fun a h => match a, h with
  | [.agg [.c (.int .i64 k), .c (.int .i64 n), .c (.str s)]], [] => some ([], [V.i (checkV ⟨k, n, s⟩)], [])
  | _, _ => none
def s170 : CSpec := fun a h => match a, h with
  | [.c (.int .i64 a), .c (.int .i64 b)], [] => some ([], [V.b (isSpan a b)], [])
  | _, _ => none
noncomputable abbrev p133 : Par := par E sh (ctOf [(170, s170), (171, s171)]) 133 1 0
abbrev s133_0 (nl : Option Bool) (tt : Bool) (xs : List (List C)) (i10 : Int) (i11 : Int) : Fr × Hp := ([(0, V.c (C.sl 5 nl tt xs)), (9, V.c (C.sl 5 nl tt xs)), (10, V.c (C.int IntKind.i64 i10)), (11, V.c (C.int IntKind.i64 i11))], [])
noncomputable abbrev b133_0 : Code := loopAt (codeOf p133.E p133.g) 0
abbrev x133_0x0 (ih0 : Int) (ih0_1 : Int) (ih0_2 : Int) (ih0_3 : Int) (sh0 : List UInt8) : Ex × Fr × Hp := (Ex.ret, [(2, V.c (C.int IntKind.i64 2))], [O.box [V.c (C.int IntKind.i64 ih0), V.c (C.int IntKind.i64 ih0_1), V.c (C.int IntKind.i64 ih0_2), V.c (C.int IntKind.i64 ih0_3), V.c (C.str sh0)]])
abbrev x133_0x1 (ih0 : Int) (ih0_1 : Int) (ih0_2 : Int) (ih0_3 : Int) (sh0 : List UInt8) (ih1 : Int) (ih1_1 : Int) (ih1_2 : Int) (ih1_3 : Int) (sh1 : List UInt8) : Ex × Fr × Hp := (Ex.ret, [(2, V.c (C.int IntKind.i64 2))], [O.box [V.c (C.int IntKind.i64 ih0), V.c (C.int IntKind.i64 ih0_1), V.c (C.int IntKind.i64 ih0_2), V.c (C.int IntKind.i64 ih0_3), V.c (C.str sh0)], O.box [V.c (C.int IntKind.i64 ih1), V.c (C.int IntKind.i64 ih1_1), V.c (C.int IntKind.i64 ih1_2), V.c (C.int IntKind.i64 ih1_3), V.c (C.str sh1)]])
abbrev x133_0x2 (nl : Option Bool) (tt : Bool) (xs : List (List C)) (i10 : Int) (i11 : Int) : Ex × Fr × Hp := (Ex.exit 0, [(0, V.c (C.sl 5 nl tt xs)), (9, V.c (C.sl 5 nl tt xs)), (10, V.c (C.int IntKind.i64 i10)), (11, V.c (C.int IntKind.i64 i11)), (12, V.c (C.bool false))], [])
theorem t133_0 (nl : Option Bool) (tt : Bool) (xs : List (List C)) (i10 : Int) (i11 : Int) : p133.lts b133_0 (s133_0 nl tt xs i10 i11) = (Tr.br (decide (i11 < i10)) (Tr.chk (decide (0 ≤ i11)) (Tr.chk true (Tr.chk (decide (i11.toNat < xs.length)) (Tr.chk (shOk [Sk.int IntKind.i64, Sk.int IntKind.i64, Sk.int IntKind.i64, Sk.int IntKind.i64, Sk.str] (xs.getD i11.toNat [])) (Tr.br (!isSpan ((xs.getD i11.toNat []).headD C.pnil).i ((xs.getD i11.toNat []).tail.headD C.pnil).i) (Tr.leaf (R.x (x133_0x0 (((xs.getD i11.toNat []).headD C.pnil).i) (((xs.getD i11.toNat []).tail.headD C.pnil).i) (((xs.getD i11.toNat []).tail.tail.headD C.pnil).i) (((xs.getD i11.toNat []).tail.tail.tail.headD C.pnil).i) (((xs.getD i11.toNat []).tail.tail.tail.tail.headD C.pnil).st)))) (Tr.br (checkV { k := ((xs.getD i11.toNat []).tail.tail.headD C.pnil).i, n := ((xs.getD i11.toNat []).tail.tail.tail.headD C.pnil).i, s := ((xs.getD i11.toNat []).tail.tail.tail.tail.headD C.pnil).st } != 0) (Tr.leaf (R.x (x133_0x0 (((xs.getD i11.toNat []).headD C.pnil).i) (((xs.getD i11.toNat []).tail.headD C.pnil).i) (((xs.getD i11.toNat []).tail.tail.headD C.pnil).i) (((xs.getD i11.toNat []).tail.tail.tail.headD C.pnil).i) (((xs.getD i11.toNat []).tail.tail.tail.tail.headD C.pnil).st)))) (Tr.br (i11 == 0) (Tr.leaf (R.s (s133_0 nl tt xs i10 (IntKind.i64.wrap (i11 + 1))))) (Tr.chk (decide (0 ≤ IntKind.i64.wrap (i11 - 1))) (Tr.chk true (Tr.chk (decide ((IntKind.i64.wrap (i11 - 1)).toNat < xs.length)) (Tr.chk (shOk [Sk.int IntKind.i64, Sk.int IntKind.i64, Sk.int IntKind.i64, Sk.int IntKind.i64, Sk.str] (xs.getD (IntKind.i64.wrap (i11 - 1)).toNat [])) (Tr.br (decide (((xs.getD i11.toNat []).headD C.pnil).i < ((xs.getD (IntKind.i64.wrap (i11 - 1)).toNat []).tail.headD C.pnil).i)) (Tr.leaf (R.x (x133_0x1 (((xs.getD i11.toNat []).headD C.pnil).i) (((xs.getD i11.toNat []).tail.headD C.pnil).i) (((xs.getD i11.toNat []).tail.tail.headD C.pnil).i) (((xs.getD i11.toNat []).tail.tail.tail.headD C.pnil).i) (((xs.getD i11.toNat []).tail.tail.tail.tail.headD C.pnil).st) (((xs.getD (IntKind.i64.wrap (i11 - 1)).toNat []).headD C.pnil).i) (((xs.getD (IntKind.i64.wrap (i11 - 1)).toNat []).tail.headD C.pnil).i) (((xs.getD (IntKind.i64.wrap (i11 - 1)).toNat []).tail.tail.headD C.pnil).i) (((xs.getD (IntKind.i64.wrap (i11 - 1)).toNat []).tail.tail.tail.headD C.pnil).i) (((xs.getD (IntKind.i64.wrap (i11 - 1)).toNat []).tail.tail.tail.tail.headD C.pnil).st)))) (Tr.br (((xs.getD i11.toNat []).headD C.pnil).i == ((xs.getD (IntKind.i64.wrap (i11 - 1)).toNat []).tail.headD C.pnil).i) (Tr.br (((xs.getD i11.toNat []).tail.tail.headD C.pnil).i == ((xs.getD (IntKind.i64.wrap (i11 - 1)).toNat []).tail.tail.headD C.pnil).i && (((xs.getD i11.toNat []).tail.tail.tail.headD C.pnil).i == ((xs.getD (IntKind.i64.wrap (i11 - 1)).toNat []).tail.tail.tail.headD C.pnil).i && (((xs.getD i11.toNat []).tail.tail.tail.tail.headD C.pnil).st == ((xs.getD (IntKind.i64.wrap (i11 - 1)).toNat []).tail.tail.tail.tail.headD C.pnil).st && true))) (Tr.leaf (R.x (x133_0x1 (((xs.getD i11.toNat []).headD C.pnil).i) (((xs.getD i11.toNat []).tail.headD C.pnil).i) (((xs.getD i11.toNat []).tail.tail.headD C.pnil).i) (((xs.getD i11.toNat []).tail.tail.tail.headD C.pnil).i) (((xs.getD i11.toNat []).tail.tail.tail.tail.headD C.pnil).st) (((xs.getD (IntKind.i64.wrap (i11 - 1)).toNat []).headD C.pnil).i) (((xs.getD (IntKind.i64.wrap (i11 - 1)).toNat []).tail.headD C.pnil).i) (((xs.getD (IntKind.i64.wrap (i11 - 1)).toNat []).tail.tail.headD C.pnil).i) (((xs.getD (IntKind.i64.wrap (i11 - 1)).toNat []).tail.tail.tail.headD C.pnil).i) (((xs.getD (IntKind.i64.wrap (i11 - 1)).toNat []).tail.tail.tail.tail.headD C.pnil).st)))) (Tr.leaf (R.s (s133_0 nl tt xs i10 (IntKind.i64.wrap (i11 + 1)))))) (Tr.leaf (R.s (s133_0 nl tt xs i10 (IntKind.i64.wrap (i11 + 1)))))))))))))))))) (Tr.leaf (R.x (x133_0x2 nl tt xs i10 i11)))) := by kernel_rfl
theorem k133_0x0 (ih0 : Int) (ih0_1 : Int) (ih0_2 : Int) (ih0_3 : Int) (sh0 : List UInt8) : p133.fkx 0 (x133_0x0 ih0 ih0_1 ih0_2 ih0_3 sh0) = (Tr.leaf (R.out [V.c (C.int IntKind.i64 2)] [])) := by kernel_rfl
theorem k133_0x1 (ih0 : Int) (ih0_1 : Int) (ih0_2 : Int) (ih0_3 : Int) (sh0 : List UInt8) (ih1 : Int) (ih1_1 : Int) (ih1_2 : Int) (ih1_3 : Int) (sh1 : List UInt8) : p133.fkx 0 (x133_0x1 ih0 ih0_1 ih0_2 ih0_3 sh0 ih1 ih1_1 ih1_2 ih1_3 sh1) = (Tr.leaf (R.out [V.c (C.int IntKind.i64 2)] [])) := by kernel_rfl
theorem k133_0x2 (nl : Option Bool) (tt : Bool) (xs : List (List C)) (i10 : Int) (i11 : Int) : p133.fkx 0 (x133_0x2 nl tt xs i10 i11) = (Tr.leaf (R.out [V.c (C.int IntKind.i64 0)] [])) := by kernel_rfl
theorem t133 (nl : Option Bool) (tt : Bool) (xs : List (List C)) : p133.ft ([V.c (C.sl 5 nl tt xs)]) ([]) = (Tr.br (decide (64 < (↑xs.length : Int))) (Tr.leaf (R.out [V.c (C.int IntKind.i64 2)] [])) (Tr.ls 0 (s133_0 nl tt xs ((↑xs.length : Int)) (0)))) := by kernel_rfl
end Go.Proofs.YtbilmkcdhodenaaDoor

end

/-
  Chapter 02 (span): at, Check.
-/
section
namespace Go.Proofs.YtbilmkcdhodenaaDoor
open Go Go.Ev
/-- What the program finds at a time. -/
theorem f138 (l : List Row) (nl : Option Bool) (tt : Bool) (t : Int) (hl : l.length ≤ 4294967296) : call E 138 [.c (.sl 5 nl tt (rows l)), V.i t] [] = some ([VV (atR l t)], []) := by
  refine call_of (E := E) (sh := sh) (ct := ctOf [(173, s173)]) (na := 2) (m := 0) (ctOf_cons s173_ok ctOf_nil) rfl rfl rfl rfl rfl rfl ?_
  rw [t138]
  simp only [ld_br, ld_chk', ld_leaf, fd_br, fd_chk', fd_leaf, decide_true, decide_eq_true_eq, if_true, Int.toNat_natCast, Int.natCast_nonneg, Int.ofNat_lt, Bool.false_eq_true, if_false, bne_iff_ne, beq_iff_eq, ne_eq, not_true_eq_false, not_false_eq_true, Bool.not_eq_true', decide_eq_false_iff_not, reduceCtorEq, isRows_rows, rows_length, toRows_rows, hl, Int.ofNat_lt]
  unfold atR
  by_cases hr : bsF l t < l.length
  · simp only [hr, if_true, rows_getD hr, er_ok', er_a, dif_pos]
    by_cases hb : l[bsF l t].a ≤ t
    · simp only [hb, if_true]; rfl
    · simp only [hb, if_false]; rfl
  · simp only [hr, if_false, dif_neg, not_false_eq_true]; rfl
end Go.Proofs.YtbilmkcdhodenaaDoor

end

/-
  Chapter 02 (span): Check.
-/
section
namespace Go.Proofs.YtbilmkcdhodenaaDoor
open Go Go.Ev

theorem s171_ok : CSpecOk E 171 s171 := by
  intro a h cs vals h' he hc
  unfold s171 at he
  split at he <;> simp only [Option.some.injEq, Prod.mk.injEq, reduceCtorEq] at he
  rename_i k n s
  obtain ⟨rfl, rfl, rfl⟩ := he
  exact f171 ⟨k, n, s⟩
theorem s170_ok : CSpecOk E 170 s170 := by
  intro a h cs vals h' he hc
  unfold s170 at he
  split at he <;> simp only [Option.some.injEq, Prod.mk.injEq, reduceCtorEq] at he
  rename_i a b
  obtain ⟨rfl, rfl, rfl⟩ := he
  exact f170 a b
theorem er_v (r : Row) (d : C) : (⟨((er r).tail.tail.headD d).i, ((er r).tail.tail.tail.headD d).i, ((er r).tail.tail.tail.tail.headD d).st⟩ : Val) = r.v := rfl
theorem er_k (r : Row) (d : C) : ((er r).tail.tail.headD d).i = r.v.k := rfl
theorem er_n (r : Row) (d : C) : ((er r).tail.tail.tail.headD d).i = r.v.n := rfl
theorem er_s (r : Row) (d : C) : ((er r).tail.tail.tail.tail.headD d).st = r.v.s := rfl

def F133 (l : List Row) (nl : Option Bool) (tt : Bool) : List Row → Option Row → Ex × Fr × Hp
  | [], _ => x133_0x2 nl tt (rows l) l.length l.length
  | x :: r, p => if isSpan x.a x.b = false then x133_0x0 x.a x.b x.v.k x.v.n x.v.s else if checkV x.v = 0 then
      (match p with
       | none => F133 l nl tt r (some x)
       | some w => if x.a < w.b then x133_0x1 x.a x.b x.v.k x.v.n x.v.s w.a w.b w.v.k w.v.n w.v.s else if x.a = w.b ∧ x.v = w.v then x133_0x1 x.a x.b x.v.k x.v.n x.v.s w.a w.b w.v.k w.v.n w.v.s else F133 l nl tt r (some x))
    else x133_0x0 x.a x.b x.v.k x.v.n x.v.s
theorem F133_ok (l : List Row) (nl : Option Bool) (tt : Bool) : ∀ (r : List Row) (p : Option Row), p133.fd (p133.fkx 0 (F133 l nl tt r p)) = some (.out [V.i (cond (okFrom p r) 0 2)] [])
  | [], p => by rw [F133, k133_0x2]; rfl
  | x :: r, p => by
    have ih := F133_ok l nl tt r (some x)
    simp only [F133, okFrom]
    by_cases h1 : isSpan x.a x.b = false
    · rw [if_pos h1, k133_0x0, h1]; rfl
    · rw [if_neg h1]
      have h1' : isSpan x.a x.b = true := by simpa using h1
      by_cases h2 : checkV x.v = 0
      · rw [if_pos h2]
        cases p with
        | none => rw [ih]; simp [h1', h2]
        | some w =>
          by_cases h3 : x.a < w.b
          · simp only [if_pos h3]; rw [k133_0x1]; simp [h3]; rfl
          · simp only [if_neg h3]
            by_cases h4 : x.a = w.b ∧ x.v = w.v
            · rw [if_pos h4, k133_0x1]; simp [h4.1, h4.2]; rfl
            · rw [if_neg h4, ih]
              have : (decide (x.a = w.b) && decide (x.v = w.v)) = false := by simpa using h4
              simp [h1', h2, h3, this]
      · rw [if_neg h2, k133_0x0]; simp [h2]; rfl
end Go.Proofs.YtbilmkcdhodenaaDoor

end

/-
  Chapter 02 (span): Check's loop.
-/
section
namespace Go.Proofs.YtbilmkcdhodenaaDoor
open Go Go.Ev

theorem val_eqb (a b : Val) : (a.k == b.k && (a.n == b.n && (a.s == b.s && true))) = decide (a = b) := by
  obtain ⟨a1, a2, a3⟩ := a
  obtain ⟨b1, b2, b3⟩ := b
  rw [Bool.eq_iff_iff]
  simp

theorem f133 (l : List Row) (nl : Option Bool) (tt : Bool) : call E 133 [.c (.sl 5 nl tt (rows l))] [] = some ([V.i (cond (right l) 0 2)], []) := by
  have hct : (ctOf [(170, s170), (171, s171)]).ok E := ctOf_cons s170_ok (ctOf_cons s171_ok ctOf_nil)
  refine call_of (E := E) (sh := sh) (ct := ctOf [(170, s170), (171, s171)]) (na := 1) (m := 0) hct rfl rfl rfl rfl rfl rfl ?_
  rw [t133, rows_length]
  simp only [fd_br, decide_eq_true_eq]
  by_cases hl : (64 : Int) < l.length
  · rw [if_pos hl, fd_leaf]
    have : right l = false := by simp [right]; omega
    rw [this]; rfl
  · rw [if_neg hl]
    have hr : right l = okFrom none l := by simp [right]; omega
    rw [hr]
    have hloop := loop_list (p := p133) hct (b := b133_0) l (fun k (_ : Option Row) => s133_0 nl tt (rows l) (l.length : Int) (k : Int)) (fun k s => s = if k = 0 then none else l[k - 1]?) (F133 l nl tt)
      (fun k s x hx hk hi => by
        rw [t133_0]
        have hg : (rows l).getD k [] = er x := by rw [rows_getD hk]; rw [List.getElem?_eq_getElem hk] at hx; simp only [Option.some.injEq] at hx; rw [hx]
        simp only [ld_br, ld_chk', ld_leaf, fd_br, fd_chk', fd_leaf, decide_true, decide_eq_true_eq, if_true, Int.toNat_natCast, Int.natCast_nonneg, Int.ofNat_lt, Bool.false_eq_true, if_false, bne_iff_ne, beq_iff_eq, ne_eq, not_true_eq_false, not_false_eq_true, Bool.not_eq_true', decide_eq_false_iff_not, reduceCtorEq, Int.ofNat_lt, hk, rows_length, hg, er_ok', er_a, er_b, er_v, er_k, er_n, er_s]
        have hw1 : IntKind.wrap .i64 ((k : Int) + 1) = ((k + 1 : Nat) : Int) := by rw [wrap_same (by omega) (by omega)]; omega
        by_cases h1 : isSpan x.a x.b = false
        · right; simp only [F133, if_pos h1]; exact ⟨by simp, trivial⟩
        · by_cases h2 : checkV x.v = 0
          · cases k with
            | zero =>
              left
              subst hi
              refine ⟨some x, by simpa using hx.symm, ?_, ?_⟩
              · simp only [F133, if_neg h1, if_pos h2, if_true]
              · rw [if_neg h1, if_neg (by simpa using h2)]; simp only [Int.natCast_zero, if_true] at hw1 ⊢; rw [hw1]
            | succ k =>
              have hk' : k < l.length := by omega
              have hw2 : IntKind.wrap .i64 (((k + 1 : Nat) : Int) - 1) = (k : Int) := by rw [wrap_same (by omega) (by omega)]; omega
              have hne : ¬ (((k + 1 : Nat) : Int) = 0) := by omega
              have hs : s = some l[k] := by rw [hi]; simp [hk']
              subst hs
              simp only [if_neg h1, h2, not_true_eq_false, if_false, if_neg hne, hw2, Int.natCast_nonneg, if_true, Int.toNat_natCast, hk', rows_getD hk', er_ok', er_a, er_b, er_k, er_n, er_s, hw1, F133]
              rw [val_eqb]
              by_cases h3 : x.a < l[k].b
              · right; simp only [if_pos h3]; exact ⟨by simp, trivial⟩
              · by_cases h4 : x.a = l[k].b
                · by_cases h5 : x.v = l[k].v
                  · right; simp only [if_neg h3, if_pos h4, if_pos (And.intro h4 h5), decide_eq_true h5, if_true]; exact ⟨by simp, trivial⟩
                  · left
                    refine ⟨some x, by simpa using hx.symm, ?_, ?_⟩
                    · simp only [if_neg h3, h5, and_false, if_false]
                    · simp [h3, h5]
                · left
                  refine ⟨some x, by simpa using hx.symm, ?_, ?_⟩
                  · simp only [if_neg h3, h4, false_and, if_false]
                  · simp [h3, h4]
          · right; simp only [F133, if_neg h1, if_neg h2, if_pos h2, not_false_eq_true, if_true]; exact ⟨by simp, trivial⟩)
      (fun s hi => by
        rw [t133_0]
        simp only [ld_br, ld_chk', ld_leaf, fd_br, fd_chk', fd_leaf, decide_true, decide_eq_true_eq, if_true, Int.toNat_natCast, Int.natCast_nonneg, Int.ofNat_lt, Bool.false_eq_true, if_false, bne_iff_ne, beq_iff_eq, ne_eq, not_true_eq_false, not_false_eq_true, Bool.not_eq_true', decide_eq_false_iff_not, reduceCtorEq, F133]
        refine ⟨trivial, ?_⟩
        rw [if_neg (Nat.lt_irrefl _)]) none rfl
    refine fd_ls hct (by kernel_rfl) hloop ?_ rfl
    exact F133_ok l nl tt l none
end Go.Proofs.YtbilmkcdhodenaaDoor

end

/-
  Chapter 02 (span): trees, written by a program.
-/
section
namespace Go.Proofs.YtbilmkcdhodenaaDoor
open Go Go.Ev
set_option pp.deepTerms true
set_option pp.maxSteps 1000000
set_option pp.funBinderTypes true
set_option pp.coercions.types true
def s133 : CSpec := fun a h => match a, h with
  | [.c (.sl 5 nl tt xs)], [] => some ([isRows xs], [V.i (checkR (toRows xs))], [])
  | _, _ => none
def s138 : CSpec := fun a h => match a, h with
  | [.c (.sl 5 nl tt xs), .c (.int .i64 t)], [] => some ([isRows xs, decide (xs.length ≤ 4294967296)], [VV (atR (toRows xs) t)], [])
  | _, _ => none
noncomputable abbrev p101 : Par := par E sh (ctOf [(133, s133), (138, s138)]) 101 2 0
theorem t101 (nl : Option Bool) (tt : Bool) (xs : List (List C)) (t : Int) : p101.ft ([V.c (C.sl 5 nl tt xs), V.i t]) ([]) = (Tr.chk (isRows xs) (Tr.br (checkR (toRows xs) != 0) (Tr.leaf (R.out [V.agg [V.c (C.int IntKind.i64 0), V.c (C.int IntKind.i64 0), V.c (C.str [])], V.c (C.bool false)] [])) (Tr.chk (isRows xs) (Tr.chk (decide (xs.length ≤ 4294967296)) (Tr.leaf (R.out [V.agg [V.c (C.int IntKind.i64 (atR (toRows xs) t).k), V.c (C.int IntKind.i64 (atR (toRows xs) t).n), V.c (C.str (atR (toRows xs) t).s)], V.c (C.bool ((atR (toRows xs) t).k != 0))] [])))))) := by kernel_rfl
noncomputable abbrev p104 : Par := par E sh (ctOf []) 104 2 0
abbrev s104_0 (nl : Option Bool) (tt : Bool) (xs : List (List C)) (t : Int) (i5 : Int) (ih0 : Int) (ih0_1 : Int) (sh0 : List UInt8) : Fr × Hp := ([(0, V.c (C.sl 5 nl tt xs)), (1, V.c (C.int IntKind.i64 t)), (4, V.ptr 0 0 0 0), (5, V.c (C.int IntKind.i64 i5))], [O.box [V.c (C.int IntKind.i64 ih0), V.c (C.int IntKind.i64 ih0_1), V.c (C.str sh0)]])
noncomputable abbrev b104_0 : Code := loopAt (codeOf p104.E p104.g) 0
abbrev x104_0x0 (ih0_2 : Int) (ih0_3 : Int) (sh0_1 : List UInt8) : Ex × Fr × Hp := (Ex.ret, [(4, V.ptr 0 0 0 0)], [O.box [V.c (C.int IntKind.i64 ih0_2), V.c (C.int IntKind.i64 ih0_3), V.c (C.str sh0_1)]])
abbrev x104_0x1 (nl : Option Bool) (tt : Bool) (xs : List (List C)) (t : Int) (i5 : Int) (ih0 : Int) (ih0_1 : Int) (sh0 : List UInt8) : Ex × Fr × Hp := (Ex.exit 0, [(0, V.c (C.sl 5 nl tt xs)), (1, V.c (C.int IntKind.i64 t)), (4, V.ptr 0 0 0 0), (5, V.c (C.int IntKind.i64 i5)), (9, V.c (C.bool false))], [O.box [V.c (C.int IntKind.i64 ih0), V.c (C.int IntKind.i64 ih0_1), V.c (C.str sh0)]])
theorem t104_0 (nl : Option Bool) (tt : Bool) (xs : List (List C)) (t : Int) (i5 : Int) (ih0 : Int) (ih0_1 : Int) (sh0 : List UInt8) : p104.lts b104_0 (s104_0 nl tt xs t i5 ih0 ih0_1 sh0) = (Tr.br (decide (i5 < (↑xs.length : Int))) (Tr.chk (decide (0 ≤ i5)) (Tr.chk true (Tr.chk (decide (i5.toNat < xs.length)) (Tr.chk (shOk [Sk.int IntKind.i64, Sk.int IntKind.i64, Sk.int IntKind.i64, Sk.int IntKind.i64, Sk.str] (xs.getD i5.toNat [])) (Tr.br (decide (((xs.getD i5.toNat []).headD C.pnil).i ≤ t)) (Tr.chk (decide (0 ≤ i5)) (Tr.chk true (Tr.chk (decide (i5.toNat < xs.length)) (Tr.chk (shOk [Sk.int IntKind.i64, Sk.int IntKind.i64, Sk.int IntKind.i64, Sk.int IntKind.i64, Sk.str] (xs.getD i5.toNat [])) (Tr.br (decide (t < ((xs.getD i5.toNat []).tail.headD C.pnil).i)) (Tr.chk (decide (0 ≤ i5)) (Tr.chk true (Tr.chk (decide (i5.toNat < xs.length)) (Tr.chk (shOk [Sk.int IntKind.i64, Sk.int IntKind.i64, Sk.int IntKind.i64, Sk.int IntKind.i64, Sk.str] (xs.getD i5.toNat [])) (Tr.leaf (R.x (x104_0x0 (((xs.getD i5.toNat []).tail.tail.headD C.pnil).i) (((xs.getD i5.toNat []).tail.tail.tail.headD C.pnil).i) (((xs.getD i5.toNat []).tail.tail.tail.tail.headD C.pnil).st)))))))) (Tr.leaf (R.s (s104_0 nl tt xs t (IntKind.i64.wrap (i5 + 1)) ih0 ih0_1 sh0)))))))) (Tr.leaf (R.s (s104_0 nl tt xs t (IntKind.i64.wrap (i5 + 1)) ih0 ih0_1 sh0)))))))) (Tr.leaf (R.x (x104_0x1 nl tt xs t i5 ih0 ih0_1 sh0)))) := by kernel_rfl
theorem k104_0x0 (ih0_2 : Int) (ih0_3 : Int) (sh0_1 : List UInt8) : p104.fkx 0 (x104_0x0 ih0_2 ih0_3 sh0_1) = (Tr.leaf (R.out [V.agg [V.c (C.int IntKind.i64 ih0_2), V.c (C.int IntKind.i64 ih0_3), V.c (C.str sh0_1)]] [])) := by kernel_rfl
theorem k104_0x1 (nl : Option Bool) (tt : Bool) (xs : List (List C)) (t : Int) (i5 : Int) (ih0 : Int) (ih0_1 : Int) (sh0 : List UInt8) : p104.fkx 0 (x104_0x1 nl tt xs t i5 ih0 ih0_1 sh0) = (Tr.leaf (R.out [V.agg [V.c (C.int IntKind.i64 0), V.c (C.int IntKind.i64 0), V.c (C.str [])]] [])) := by kernel_rfl
theorem t104 (nl : Option Bool) (tt : Bool) (xs : List (List C)) (t : Int) : p104.ft ([V.c (C.sl 5 nl tt xs), V.i t]) ([]) = (Tr.ls 0 (s104_0 nl tt xs t (0) (0) (0) ([]))) := by kernel_rfl
noncomputable abbrev p72 : Par := par E sh (ctOf []) 72 2 0
abbrev s72_0 (nl : Option Bool) (tt : Bool) (xs : List (List C)) (nl2 : Option Bool) (t2 : Bool) (ys : List (List C)) (i5 : Int) : Fr × Hp := ([(0, V.c (C.sl 5 nl tt xs)), (1, V.c (C.sl 5 nl2 t2 ys)), (5, V.c (C.int IntKind.i64 i5))], [])
noncomputable abbrev b72_0 : Code := loopAt (codeOf p72.E p72.g) 0
abbrev x72_0x0 : Ex × Fr × Hp := (Ex.ret, [(4, V.c (C.bool false))], [])
abbrev x72_0x1 (nl : Option Bool) (tt : Bool) (xs : List (List C)) (nl2 : Option Bool) (t2 : Bool) (ys : List (List C)) (i5 : Int) : Ex × Fr × Hp := (Ex.exit 0, [(0, V.c (C.sl 5 nl tt xs)), (1, V.c (C.sl 5 nl2 t2 ys)), (5, V.c (C.int IntKind.i64 i5)), (14, V.c (C.bool false))], [])
theorem t72_0 (nl : Option Bool) (tt : Bool) (xs : List (List C)) (nl2 : Option Bool) (t2 : Bool) (ys : List (List C)) (i5 : Int) : p72.lts b72_0 (s72_0 nl tt xs nl2 t2 ys i5) = (Tr.br (decide (i5 < (↑xs.length : Int))) (Tr.chk (decide (0 ≤ i5)) (Tr.chk true (Tr.chk (decide (i5.toNat < xs.length)) (Tr.chk (shOk [Sk.int IntKind.i64, Sk.int IntKind.i64, Sk.int IntKind.i64, Sk.int IntKind.i64, Sk.str] (xs.getD i5.toNat [])) (Tr.chk (decide (0 ≤ i5)) (Tr.chk true (Tr.chk (decide (i5.toNat < ys.length)) (Tr.chk (shOk [Sk.int IntKind.i64, Sk.int IntKind.i64, Sk.int IntKind.i64, Sk.int IntKind.i64, Sk.str] (ys.getD i5.toNat [])) (Tr.br (!(((xs.getD i5.toNat []).headD C.pnil).i == ((ys.getD i5.toNat []).headD C.pnil).i && (((xs.getD i5.toNat []).tail.headD C.pnil).i == ((ys.getD i5.toNat []).tail.headD C.pnil).i && (((xs.getD i5.toNat []).tail.tail.headD C.pnil).i == ((ys.getD i5.toNat []).tail.tail.headD C.pnil).i && (((xs.getD i5.toNat []).tail.tail.tail.headD C.pnil).i == ((ys.getD i5.toNat []).tail.tail.tail.headD C.pnil).i && (((xs.getD i5.toNat []).tail.tail.tail.tail.headD C.pnil).st == ((ys.getD i5.toNat []).tail.tail.tail.tail.headD C.pnil).st && true)))))) (Tr.leaf (R.x x72_0x0)) (Tr.leaf (R.s (s72_0 nl tt xs nl2 t2 ys (IntKind.i64.wrap (i5 + 1)))))))))))))) (Tr.leaf (R.x (x72_0x1 nl tt xs nl2 t2 ys i5)))) := by kernel_rfl
theorem k72_0x0 : p72.fkx 0 x72_0x0 = (Tr.leaf (R.out [V.c (C.bool false)] [])) := by kernel_rfl
theorem k72_0x1 (nl : Option Bool) (tt : Bool) (xs : List (List C)) (nl2 : Option Bool) (t2 : Bool) (ys : List (List C)) (i5 : Int) : p72.fkx 0 (x72_0x1 nl tt xs nl2 t2 ys i5) = (Tr.leaf (R.out [V.c (C.bool true)] [])) := by kernel_rfl
theorem t72 (nl : Option Bool) (tt : Bool) (xs : List (List C)) (nl2 : Option Bool) (t2 : Bool) (ys : List (List C)) : p72.ft ([V.c (C.sl 5 nl tt xs), V.c (C.sl 5 nl2 t2 ys)]) ([]) = (Tr.br ((↑xs.length : Int) != (↑ys.length : Int)) (Tr.leaf (R.out [V.c (C.bool false)] [])) (Tr.ls 0 (s72_0 nl tt xs nl2 t2 ys (0)))) := by kernel_rfl
end Go.Proofs.YtbilmkcdhodenaaDoor

end

/-
  Chapter 02 (span): rows behind rows, what is had, the same.
-/
section
namespace Go.Proofs.YtbilmkcdhodenaaDoor
open Go Go.Ev

@[simp] theorem ep_ok' (r : Piece) : shOk [Sk.int .i64, Sk.int .i64, Sk.int .i64, Sk.int .i64, Sk.str, Sk.int .i64, Sk.int .i64, Sk.str] (ep r) = true := rfl
theorem ep_a (r : Piece) (d : C) : ((ep r).headD d).i = r.a := rfl
theorem ep_b (r : Piece) (d : C) : ((ep r).tail.headD d).i = r.b := rfl
theorem ep_hk (r : Piece) (d : C) : ((ep r).tail.tail.headD d).i = r.h.k := rfl
theorem ep_hn (r : Piece) (d : C) : ((ep r).tail.tail.tail.headD d).i = r.h.n := rfl
theorem ep_hs (r : Piece) (d : C) : ((ep r).tail.tail.tail.tail.headD d).st = r.h.s := rfl
theorem ep_wk (r : Piece) (d : C) : ((ep r).tail.tail.tail.tail.tail.headD d).i = r.w.k := rfl
theorem ep_wn (r : Piece) (d : C) : ((ep r).tail.tail.tail.tail.tail.tail.headD d).i = r.w.n := rfl
theorem ep_ws (r : Piece) (d : C) : ((ep r).tail.tail.tail.tail.tail.tail.tail.headD d).st = r.w.s := rfl
end Go.Proofs.YtbilmkcdhodenaaDoor

end

/-
  Chapter 02 (span): At, few; the reference's Had, insert, add, done, Same.
-/
section
namespace Go.Proofs.YtbilmkcdhodenaaDoor
open Go Go.Ev

theorem s133_ok : CSpecOk E 133 s133 := by
  intro a h cs vals h' he hc
  unfold s133 at he
  split at he <;> simp only [Option.some.injEq, Prod.mk.injEq, reduceCtorEq] at he
  rename_i nl tt xs
  obtain ⟨rfl, rfl, rfl⟩ := he
  simp only [allT, Bool.and_eq_true, and_true] at hc
  have := f133 (toRows xs) nl tt
  rw [← rows_of hc] at this
  rw [this]
  unfold checkR
  cases right (toRows xs) <;> rfl
theorem s138_ok : CSpecOk E 138 s138 := by
  intro a h cs vals h' he hc
  unfold s138 at he
  split at he <;> simp only [Option.some.injEq, Prod.mk.injEq, reduceCtorEq] at he
  rename_i nl tt xs t
  obtain ⟨rfl, rfl, rfl⟩ := he
  simp only [allT, Bool.and_eq_true, and_true, decide_eq_true_eq] at hc
  have := f138 (toRows xs) nl tt t (by rw [toRows_length]; exact hc.2)
  rwa [← rows_of hc.1] at this
theorem checkR_ne (l : List Row) : (checkR l != 0) = !right l := by
  unfold checkR; cases right l <;> rfl
theorem f101 (l : List Row) (nl : Option Bool) (tt : Bool) (t : Int) (hl : l.length ≤ 4294967296) : call E 101 [.c (.sl 5 nl tt (rows l)), V.i t] [] = some ([VV (atP l t), V.b ((atP l t).k != 0)], []) := by
  refine call_of (E := E) (sh := sh) (ct := ctOf [(133, s133), (138, s138)]) (na := 2) (m := 0) (ctOf_cons s133_ok (ctOf_cons s138_ok ctOf_nil)) rfl rfl rfl rfl rfl rfl ?_
  rw [t101]
  simp only [fd_br, fd_chk', fd_leaf, isRows_rows, if_true, toRows_rows, checkR_ne, rows_length, hl, decide_true, Bool.not_eq_true']
  unfold atP
  by_cases h : right l = true
  · simp only [h, if_true, Bool.true_eq_false, if_false]
  · simp only [h, if_false, Bool.not_eq_true] at h ⊢; simp only [h, if_true]; rfl
/-- What rows have at a time: the first one that holds it. -/
def hadF : List Row → Int → Val
  | [], _ => Val.none
  | x :: r, t => if x.a ≤ t ∧ t < x.b then x.v else hadF r t
theorem f104 (l : List Row) (nl : Option Bool) (tt : Bool) (t : Int) (hl : l.length < 4294967296) : call E 104 [.c (.sl 5 nl tt (rows l)), V.i t] [] = some ([VV (hadF l t)], []) := by
  refine call_of (E := E) (sh := sh) (ct := ctOf []) (na := 2) (m := 0) ctOf_nil rfl rfl rfl rfl rfl rfl ?_
  rw [t104]
  refine fd_post ctOf_nil (by kernel_rfl) rfl (list_post ctOf_nil (b := b104_0) l.length (fun k (_ : Unit) => s104_0 nl tt (rows l) t k 0 0 []) (fun k _ => hadF (l.drop k) t = hadF l t) _ ?_ ?_ 0 (Nat.zero_le _) () (by rfl))
  · intro k _ hk hi
    rw [List.drop_eq_getElem_cons hk, hadF] at hi
    rw [t104_0]
    simp only [ld_br, ld_chk', ld_leaf, fd_br, fd_chk', fd_leaf, decide_true, decide_eq_true_eq, if_true, Int.toNat_natCast, Int.natCast_nonneg, Int.ofNat_lt, Int.ofNat_le, Bool.false_eq_true, if_false, bne_iff_ne, beq_iff_eq, ne_eq, not_true_eq_false, not_false_eq_true, Bool.not_eq_true', decide_eq_false_iff_not, reduceCtorEq, rows_length, pcs_length, er_ok, er_ok', ep_ok, ep_ok', dr_er, dp_ep, isRows_rows, isPcs_pcs, toRows_rows, toPcs_pcs, rows_take, rows_drop, pcs_take, pcs_drop, rows_append, pcs_append, ints_length, isInts_ints, toInts_ints, ei_i, ei_ok, mk_headD, ints_take, ints_drop, ints_append, ints_snoc, ints_snoc', List.take_length, Nat.zero_add, Nat.le_refl, er_a, er_b, er_k, er_n, er_s, er_v, ep_a, ep_b, ep_hk, ep_hn, ep_hs, ep_wk, ep_wn, ep_ws, hk, rows_getD hk, wrap_succ (show k < 9223372036854775807 by omega)]
    by_cases h1 : l[k].a ≤ t
    · by_cases h2 : t < l[k].b
      · refine .inr ⟨x104_0x0 l[k].v.k l[k].v.n l[k].v.s, by simp, ?_, by simp only [h1, h2, if_true]⟩
        rw [k104_0x0, fd_leaf, ← hi, if_pos ⟨h1, h2⟩]
      · exact .inl ⟨(), by rw [← hi, if_neg (by simp [h2])], by simp only [h1, h2, if_true, if_false]⟩
    · exact .inl ⟨(), by rw [← hi, if_neg (by simp [h1])], by simp only [h1, if_false]⟩
  · intro _ hi
    rw [t104_0]
    refine ⟨x104_0x1 nl tt (rows l) t l.length 0 0 [], by simp, ?_, by simp only [ld_br, ld_chk', ld_leaf, fd_br, fd_chk', fd_leaf, decide_true, decide_eq_true_eq, if_true, Int.toNat_natCast, Int.natCast_nonneg, Int.ofNat_lt, Int.ofNat_le, Bool.false_eq_true, if_false, bne_iff_ne, beq_iff_eq, ne_eq, not_true_eq_false, not_false_eq_true, Bool.not_eq_true', decide_eq_false_iff_not, reduceCtorEq, rows_length, pcs_length, er_ok, er_ok', ep_ok, ep_ok', dr_er, dp_ep, isRows_rows, isPcs_pcs, toRows_rows, toPcs_pcs, rows_take, rows_drop, pcs_take, pcs_drop, rows_append, pcs_append, ints_length, isInts_ints, toInts_ints, ei_i, ei_ok, mk_headD, ints_take, ints_drop, ints_append, ints_snoc, ints_snoc', List.take_length, Nat.zero_add, Nat.le_refl, er_a, er_b, er_k, er_n, er_s, er_v, ep_a, ep_b, ep_hk, ep_hn, ep_hs, ep_wk, ep_wn, ep_ws, Nat.lt_irrefl]⟩
    rw [k104_0x1, fd_leaf, ← hi, List.drop_length]; rfl

end Go.Proofs.YtbilmkcdhodenaaDoor

end

/-
  Chapter 02 (span): trees, written by a program.
-/
section
namespace Go.Proofs.YtbilmkcdhodenaaDoor
open Go Go.Ev
set_option pp.deepTerms true
set_option pp.maxSteps 1000000
set_option pp.funBinderTypes true
set_option pp.coercions.types true
/-- How many bytes the code point at a place has, as the reference has it; its loop: so many left, at so far, the sum. -/
def widthG (s : List UInt8) (at_ : Int) : Nat → Int → Int → Option Int
  | 0, _, c => some c
  | f + 1, i, c => if (s.length : Int) ≤ at_ + i then none else if ((s.getD (at_ + i).toNat 0).toNat : Int).tdiv 64 ≠ 2 then none else widthG s at_ f (i + 1) (64 * c + ((s.getD (at_ + i).toNat 0).toNat : Int).tmod 64)
def widthE (s : List UInt8) (at_ : Int) (n c least : Int) : Int := match widthG s at_ (n - 1).toNat 1 c with
  | none => 0
  | some c => if c < least then 0 else if 55296 ≤ c ∧ c < 57344 then 0 else if 1114111 < c then 0 else n
def widthR (s : List UInt8) (at_ : Int) : Int :=
  if at_ < 0 ∨ (s.length : Int) ≤ at_ then 0 else
    let b : Int := (s.getD at_.toNat 0).toNat
    if b < 128 then 1 else if 192 ≤ b ∧ b < 224 then widthE s at_ 2 (b - 192) 128 else if 224 ≤ b ∧ b < 240 then widthE s at_ 3 (b - 224) 2048 else if 240 ≤ b ∧ b < 248 then widthE s at_ 4 (b - 240) 65536 else 0
def s197 : CSpec := fun a h => match a, h with
  | [.c (.str s), .c (.int .i64 t)], [] => some ([decide (s.length < 1000000), decide (t < 1000000)], [V.i (widthR s t)], [])
  | _, _ => none
/-- .. of all the text, from a place on. -/
def runesR (s : List UInt8) : Nat → Int → Int → Int
  | 0, _, n => n
  | f + 1, at_, n => if at_ < s.length then (if widthR s at_ = 0 then -1 else runesR s f (at_ + widthR s at_) (n + 1)) else n
def s172 : CSpec := fun a h => match a, h with
  | [.c (.str s)], [] => some ([decide (s.length < 1000000)], [V.i (runesR s (s.length + 1) 0 0)], [])
  | _, _ => none
noncomputable abbrev p172 : Par := par E sh (ctOf [(197, s197)]) 172 1 0
abbrev s172_0 (s : List UInt8) (i3 : Int) (i4 : Int) : Fr × Hp := ([(0, V.c (C.str s)), (3, V.c (C.int IntKind.i64 i3)), (4, V.c (C.int IntKind.i64 i4))], [])
noncomputable abbrev b172_0 : Code := loopAt (codeOf p172.E p172.g) 0
abbrev x172_0x0 : Ex × Fr × Hp := (Ex.ret, [(2, V.c (C.int IntKind.i64 (-1)))], [])
abbrev x172_0x1 (s : List UInt8) (i3 : Int) (i4 : Int) : Ex × Fr × Hp := (Ex.exit 0, [(0, V.c (C.str s)), (3, V.c (C.int IntKind.i64 i3)), (4, V.c (C.int IntKind.i64 i4)), (9, V.c (C.bool false))], [])
theorem t172_0 (s : List UInt8) (i3 : Int) (i4 : Int) : p172.lts b172_0 (s172_0 s i3 i4) = (Tr.br (decide (i4 < (↑s.length : Int))) (Tr.chk (decide (s.length < 1000000)) (Tr.chk (decide (i4 < 1000000)) (Tr.br (widthR s i4 == 0) (Tr.leaf (R.x x172_0x0)) (Tr.leaf (R.s (s172_0 s (IntKind.i64.wrap (i3 + 1)) (IntKind.i64.wrap (i4 + widthR s i4)))))))) (Tr.leaf (R.x (x172_0x1 s i3 i4)))) := by kernel_rfl
theorem k172_0x0 : p172.fkx 0 x172_0x0 = (Tr.leaf (R.out [V.c (C.int IntKind.i64 (-1))] [])) := by kernel_rfl
theorem k172_0x1 (s : List UInt8) (i3 : Int) (i4 : Int) : p172.fkx 0 (x172_0x1 s i3 i4) = (Tr.leaf (R.out [V.c (C.int IntKind.i64 i3)] [])) := by kernel_rfl
theorem t172 (s : List UInt8) : p172.ft ([V.c (C.str s)]) ([]) = (Tr.ls 0 (s172_0 s (0) (0))) := by kernel_rfl
noncomputable abbrev p136 : Par := par E sh (ctOf [(172, s172)]) 136 1 0
theorem t136 (k : Int) (n : Int) (s : List UInt8) : p136.ft ([V.agg [V.i k, V.i n, V.c (C.str s)]]) ([]) = (Tr.br (k == 1) (Tr.br (s == []) (Tr.leaf (R.out [V.c (C.bool true)] [])) (Tr.br (k == 2) (Tr.br (n == 0) (Tr.br (decide ((↑s.length : Int) ≤ 40)) (Tr.chk (decide (s.length < 1000000)) (Tr.leaf (R.out [V.c (C.bool (decide (0 ≤ runesR s (s.length + 1) 0 0)))] []))) (Tr.leaf (R.out [V.c (C.bool false)] []))) (Tr.leaf (R.out [V.c (C.bool false)] []))) (Tr.leaf (R.out [V.c (C.bool false)] [])))) (Tr.br (k == 2) (Tr.br (n == 0) (Tr.br (decide ((↑s.length : Int) ≤ 40)) (Tr.chk (decide (s.length < 1000000)) (Tr.leaf (R.out [V.c (C.bool (decide (0 ≤ runesR s (s.length + 1) 0 0)))] []))) (Tr.leaf (R.out [V.c (C.bool false)] []))) (Tr.leaf (R.out [V.c (C.bool false)] []))) (Tr.leaf (R.out [V.c (C.bool false)] [])))) := by kernel_rfl
def valR (v : Val) : Bool := (decide (v.k = 1) && decide (v.s = [])) || (decide (v.k = 2) && decide (v.n = 0) && decide (v.s.length ≤ 40) && decide (0 ≤ runesR v.s (v.s.length + 1) 0 0))
def s136 : CSpec := fun a h => match a, h with
  | [.agg [.c (.int .i64 k), .c (.int .i64 n), .c (.str s)]], [] => some ([], [V.b (valR ⟨k, n, s⟩)], [])
  | _, _ => none
def s135 : CSpec := s170
noncomputable abbrev p90 : Par := par E sh (ctOf [(135, s135), (136, s136)]) 90 1 0
abbrev s90_0 (nl : Option Bool) (tt : Bool) (xs : List (List C)) (i3 : Int) : Fr × Hp := ([(0, V.c (C.sl 5 nl tt xs)), (3, V.c (C.int IntKind.i64 i3))], [])
noncomputable abbrev b90_0 : Code := loopAt (codeOf p90.E p90.g) 0
abbrev x90_0x0 : Ex × Fr × Hp := (Ex.ret, [(2, V.c (C.bool false))], [])
abbrev x90_0x1 (nl : Option Bool) (tt : Bool) (xs : List (List C)) (i3 : Int) : Ex × Fr × Hp := (Ex.exit 0, [(0, V.c (C.sl 5 nl tt xs)), (3, V.c (C.int IntKind.i64 i3)), (10, V.c (C.bool false))], [])
theorem t90_0 (nl : Option Bool) (tt : Bool) (xs : List (List C)) (i3 : Int) : p90.lts b90_0 (s90_0 nl tt xs i3) = (Tr.br (decide (i3 < (↑xs.length : Int))) (Tr.chk (decide (0 ≤ i3)) (Tr.chk true (Tr.chk (decide (i3.toNat < xs.length)) (Tr.chk (shOk [Sk.int IntKind.i64, Sk.int IntKind.i64, Sk.int IntKind.i64, Sk.int IntKind.i64, Sk.str] (xs.getD i3.toNat [])) (Tr.chk (decide (0 ≤ i3)) (Tr.chk true (Tr.chk (decide (i3.toNat < xs.length)) (Tr.chk (shOk [Sk.int IntKind.i64, Sk.int IntKind.i64, Sk.int IntKind.i64, Sk.int IntKind.i64, Sk.str] (xs.getD i3.toNat [])) (Tr.br (!isSpan ((xs.getD i3.toNat []).headD C.pnil).i ((xs.getD i3.toNat []).tail.headD C.pnil).i) (Tr.leaf (R.x x90_0x0)) (Tr.chk (decide (0 ≤ i3)) (Tr.chk true (Tr.chk (decide (i3.toNat < xs.length)) (Tr.chk (shOk [Sk.int IntKind.i64, Sk.int IntKind.i64, Sk.int IntKind.i64, Sk.int IntKind.i64, Sk.str] (xs.getD i3.toNat [])) (Tr.br (!valR { k := ((xs.getD i3.toNat []).tail.tail.headD C.pnil).i, n := ((xs.getD i3.toNat []).tail.tail.tail.headD C.pnil).i, s := ((xs.getD i3.toNat []).tail.tail.tail.tail.headD C.pnil).st }) (Tr.leaf (R.x x90_0x0)) (Tr.br (decide (0 < i3)) (Tr.chk (decide (0 ≤ i3)) (Tr.chk true (Tr.chk (decide (i3.toNat < xs.length)) (Tr.chk (shOk [Sk.int IntKind.i64, Sk.int IntKind.i64, Sk.int IntKind.i64, Sk.int IntKind.i64, Sk.str] (xs.getD i3.toNat [])) (Tr.chk (decide (0 ≤ IntKind.i64.wrap (i3 - 1))) (Tr.chk true (Tr.chk (decide ((IntKind.i64.wrap (i3 - 1)).toNat < xs.length)) (Tr.chk (shOk [Sk.int IntKind.i64, Sk.int IntKind.i64, Sk.int IntKind.i64, Sk.int IntKind.i64, Sk.str] (xs.getD (IntKind.i64.wrap (i3 - 1)).toNat [])) (Tr.br (decide (((xs.getD i3.toNat []).headD C.pnil).i < ((xs.getD (IntKind.i64.wrap (i3 - 1)).toNat []).tail.headD C.pnil).i)) (Tr.leaf (R.x x90_0x0)) (Tr.chk (decide (0 ≤ i3)) (Tr.chk true (Tr.chk (decide (i3.toNat < xs.length)) (Tr.chk (shOk [Sk.int IntKind.i64, Sk.int IntKind.i64, Sk.int IntKind.i64, Sk.int IntKind.i64, Sk.str] (xs.getD i3.toNat [])) (Tr.chk (decide (0 ≤ IntKind.i64.wrap (i3 - 1))) (Tr.chk true (Tr.chk (decide ((IntKind.i64.wrap (i3 - 1)).toNat < xs.length)) (Tr.chk (shOk [Sk.int IntKind.i64, Sk.int IntKind.i64, Sk.int IntKind.i64, Sk.int IntKind.i64, Sk.str] (xs.getD (IntKind.i64.wrap (i3 - 1)).toNat [])) (Tr.br (((xs.getD i3.toNat []).headD C.pnil).i == ((xs.getD (IntKind.i64.wrap (i3 - 1)).toNat []).tail.headD C.pnil).i) (Tr.chk (decide (0 ≤ i3)) (Tr.chk true (Tr.chk (decide (i3.toNat < xs.length)) (Tr.chk (shOk [Sk.int IntKind.i64, Sk.int IntKind.i64, Sk.int IntKind.i64, Sk.int IntKind.i64, Sk.str] (xs.getD i3.toNat [])) (Tr.chk (decide (0 ≤ IntKind.i64.wrap (i3 - 1))) (Tr.chk true (Tr.chk (decide ((IntKind.i64.wrap (i3 - 1)).toNat < xs.length)) (Tr.chk (shOk [Sk.int IntKind.i64, Sk.int IntKind.i64, Sk.int IntKind.i64, Sk.int IntKind.i64, Sk.str] (xs.getD (IntKind.i64.wrap (i3 - 1)).toNat [])) (Tr.br (((xs.getD i3.toNat []).tail.tail.headD C.pnil).i == ((xs.getD (IntKind.i64.wrap (i3 - 1)).toNat []).tail.tail.headD C.pnil).i && (((xs.getD i3.toNat []).tail.tail.tail.headD C.pnil).i == ((xs.getD (IntKind.i64.wrap (i3 - 1)).toNat []).tail.tail.tail.headD C.pnil).i && (((xs.getD i3.toNat []).tail.tail.tail.tail.headD C.pnil).st == ((xs.getD (IntKind.i64.wrap (i3 - 1)).toNat []).tail.tail.tail.tail.headD C.pnil).st && true))) (Tr.leaf (R.x x90_0x0)) (Tr.leaf (R.s (s90_0 nl tt xs (IntKind.i64.wrap (i3 + 1)))))))))))))) (Tr.leaf (R.s (s90_0 nl tt xs (IntKind.i64.wrap (i3 + 1))))))))))))))))))))))) (Tr.leaf (R.s (s90_0 nl tt xs (IntKind.i64.wrap (i3 + 1)))))))))))))))))))) (Tr.leaf (R.x (x90_0x1 nl tt xs i3)))) := by kernel_rfl
theorem k90_0x0 : p90.fkx 0 x90_0x0 = (Tr.leaf (R.out [V.c (C.bool false)] [])) := by kernel_rfl
theorem k90_0x1 (nl : Option Bool) (tt : Bool) (xs : List (List C)) (i3 : Int) : p90.fkx 0 (x90_0x1 nl tt xs i3) = (Tr.leaf (R.out [V.c (C.bool true)] [])) := by kernel_rfl
theorem t90 (nl : Option Bool) (tt : Bool) (xs : List (List C)) : p90.ft ([V.c (C.sl 5 nl tt xs)]) ([]) = (Tr.br (decide (64 < (↑xs.length : Int))) (Tr.leaf (R.out [V.c (C.bool false)] [])) (Tr.ls 0 (s90_0 nl tt xs (0)))) := by kernel_rfl
end Go.Proofs.YtbilmkcdhodenaaDoor

end

/-
  Chapter 02 (span): the reference's Width, Runes, Right.
-/
section
namespace Go.Proofs.YtbilmkcdhodenaaDoor
open Go Go.Ev

theorem byte_lt (b : UInt8) : ((b.toNat : Nat) : Int) < 256 := by have := b.toNat_lt; omega
theorem wrap_byte (b : UInt8) : IntKind.wrap .i64 ((b.toNat : Nat) : Int) = ((b.toNat : Nat) : Int) := by
  have := byte_lt b
  exact wrap_same (by omega) (by omega)
theorem loop66 (s : List UInt8) (i n c least : Int) (hs : s.length < 1000000) (h0 : 0 ≤ i) (hi : i < 1000000) (hn : 2 ≤ n) (hn4 : n ≤ 4) (hc : 0 ≤ c) (hc1 : c < 256) : p197.fd (.ls 0 (s197_0 s i n c least 1)) = some (.out [V.i (widthE s i n c least)] []) := by
  have key := list_post (p := p197) ctOf_nil (b := b197_0) (n - 1).toNat (fun k (c : Int) => s197_0 s i n c least (k + 1)) (fun k c' => widthG s i ((n - 1).toNat - k) (k + 1) c' = widthG s i (n - 1).toNat 1 c ∧ 0 ≤ c' ∧ c' < 256 * 64 ^ k)
    (fun x => p197.fd (p197.fkx 0 x) = some (.out [V.i (widthE s i n c least)] [])) ?_ ?_ 0 (Nat.zero_le _) c ⟨by simp, hc, by simpa using hc1⟩
  · exact fd_post ctOf_nil (by kernel_rfl) rfl (by simpa using key)
  · rintro k c' hk ⟨h1, h2, h3⟩
    have hk3 : k < 3 := by omega
    have e1 : (n - 1).toNat - k = ((n - 1).toNat - (k + 1)) + 1 := by omega
    rw [e1, widthG] at h1
    rw [t197_0]
    have w1 : IntKind.wrap .i64 (i + ((k : Int) + 1)) = i + ((k : Int) + 1) := wrap_same (by omega) (by omega)
    have w2 : IntKind.wrap .i64 ((k : Int) + 1 + 1) = ((k + 1 : Nat) : Int) + 1 := by rw [wrap_same (by omega) (by omega)]; omega
    have hb := byte_lt (s.getD (i + ((k : Int) + 1)).toNat 0)
    have hpow : (256 : Int) * 64 ^ k ≤ 1048576 ∧ (256 : Int) * 64 ^ (k + 1) = 64 * (256 * 64 ^ k) := by
      refine ⟨?_, by rw [Int.pow_succ]; omega⟩
      rcases (show k = 0 ∨ k = 1 ∨ k = 2 by omega) with rfl | rfl | rfl <;> decide
    generalize hbb : s.getD (i + ((k : Int) + 1)).toNat 0 = b at *
    have w3 : IntKind.wrap .i64 (64 * c') = 64 * c' := wrap_same (by omega) (by omega)
    have hm : ((b.toNat : Nat) : Int).tmod 64 = ((b.toNat % 64 : Nat) : Int) := rfl
    have hd : ((b.toNat : Nat) : Int).tdiv 64 = ((b.toNat / 64 : Nat) : Int) := rfl
    have w4 : IntKind.wrap .i64 (64 * c' + ((b.toNat % 64 : Nat) : Int)) = 64 * c' + ((b.toNat % 64 : Nat) : Int) := wrap_same (by omega) (by omega)
    have w5 : IntKind.wrap .i64 ((b.toNat / 64 : Nat) : Int) = ((b.toNat / 64 : Nat) : Int) := wrap_same (by omega) (by omega)
    have c1 : (k : Int) + 1 < n := by omega
    have c2 : 0 ≤ i + ((k : Int) + 1) := by omega
    simp only [ld_br, ld_chk', ld_leaf, fd_br, fd_chk', fd_leaf, decide_true, decide_eq_true_eq, if_true, Int.toNat_natCast, Int.natCast_nonneg, Int.ofNat_lt, Int.ofNat_le, Bool.false_eq_true, if_false, bne_iff_ne, beq_iff_eq, ne_eq, not_true_eq_false, not_false_eq_true, Bool.not_eq_true', decide_eq_false_iff_not, reduceCtorEq, rows_length, pcs_length, er_ok, er_ok', ep_ok, ep_ok', dr_er, dp_ep, isRows_rows, isPcs_pcs, toRows_rows, toPcs_pcs, rows_take, rows_drop, pcs_take, pcs_drop, rows_append, pcs_append, ints_length, isInts_ints, toInts_ints, ei_i, ei_ok, mk_headD, ints_take, ints_drop, ints_append, ints_snoc, ints_snoc', List.take_length, Nat.zero_add, Nat.le_refl, er_a, er_b, er_k, er_n, er_s, er_v, ep_a, ep_b, ep_hk, ep_hn, ep_hs, ep_wk, ep_wn, ep_ws, w1, w2, wrap_byte, w3, hm, hd, w4, w5, c1, c2, hbb]
    have ex0 : p197.fd (p197.fkx 0 x197_0x0) = some (.out [V.i 0] []) := by rw [k197_0x0, fd_leaf]
    by_cases g1 : (s.length : Int) ≤ i + ((k : Int) + 1)
    · right
      rw [if_pos g1] at h1
      exact ⟨x197_0x0, by simp, by rw [ex0, widthE, ← h1], by rw [if_pos g1]⟩
    · rw [if_neg g1] at h1
      have c3 : (i + ((k : Int) + 1)).toNat < s.length := by omega
      rw [if_neg g1, if_pos c3]
      rw [hd, hm] at h1
      by_cases g2 : ((b.toNat / 64 : Nat) : Int) = 2
      · left
        rw [if_neg (fun h => h g2)] at h1
        refine ⟨64 * c' + ((b.toNat % 64 : Nat) : Int), ⟨by rw [← h1]; simp only [Int.natCast_add, Int.natCast_one], by omega, by rw [hpow.2]; omega⟩, ?_⟩
        rw [if_neg (fun h => h g2)]
        simp only [Int.natCast_add, Int.natCast_one, if_pos c3]
      · right
        rw [if_pos g2] at h1
        exact ⟨x197_0x0, by simp, by rw [ex0, widthE, ← h1], by rw [if_pos g2]⟩
  · rintro c' ⟨h1, h2, h3⟩
    rw [Nat.sub_self, widthG] at h1
    rw [t197_0]
    have c1 : ¬ ((((n - 1).toNat : Nat) : Int) + 1 < n) := by omega
    refine ⟨x197_0x1 s i n c' least (((n - 1).toNat : Nat) + 1), by simp, ?_, by simp only [ld_br, ld_chk', ld_leaf, fd_br, fd_chk', fd_leaf, decide_true, decide_eq_true_eq, if_true, Int.toNat_natCast, Int.natCast_nonneg, Int.ofNat_lt, Int.ofNat_le, Bool.false_eq_true, if_false, bne_iff_ne, beq_iff_eq, ne_eq, not_true_eq_false, not_false_eq_true, Bool.not_eq_true', decide_eq_false_iff_not, reduceCtorEq, rows_length, pcs_length, er_ok, er_ok', ep_ok, ep_ok', dr_er, dp_ep, isRows_rows, isPcs_pcs, toRows_rows, toPcs_pcs, rows_take, rows_drop, pcs_take, pcs_drop, rows_append, pcs_append, ints_length, isInts_ints, toInts_ints, ei_i, ei_ok, mk_headD, ints_take, ints_drop, ints_append, ints_snoc, ints_snoc', List.take_length, Nat.zero_add, Nat.le_refl, er_a, er_b, er_k, er_n, er_s, er_v, ep_a, ep_b, ep_hk, ep_hn, ep_hs, ep_wk, ep_wn, ep_ws, c1]⟩
    rw [k197_0x1, widthE, ← h1]
    simp only [ld_br, ld_chk', ld_leaf, fd_br, fd_chk', fd_leaf, decide_true, decide_eq_true_eq, if_true, Int.toNat_natCast, Int.natCast_nonneg, Int.ofNat_lt, Int.ofNat_le, Bool.false_eq_true, if_false, bne_iff_ne, beq_iff_eq, ne_eq, not_true_eq_false, not_false_eq_true, Bool.not_eq_true', decide_eq_false_iff_not, reduceCtorEq, rows_length, pcs_length, er_ok, er_ok', ep_ok, ep_ok', dr_er, dp_ep, isRows_rows, isPcs_pcs, toRows_rows, toPcs_pcs, rows_take, rows_drop, pcs_take, pcs_drop, rows_append, pcs_append, ints_length, isInts_ints, toInts_ints, ei_i, ei_ok, mk_headD, ints_take, ints_drop, ints_append, ints_snoc, ints_snoc', List.take_length, Nat.zero_add, Nat.le_refl, er_a, er_b, er_k, er_n, er_s, er_v, ep_a, ep_b, ep_hk, ep_hn, ep_hs, ep_wk, ep_wn, ep_ws]
    by_cases g1 : c' < least
    · simp only [g1, if_true]
    · simp only [g1, if_false]
      by_cases g2 : 55296 ≤ c'
      · by_cases g3 : c' < 57344
        · simp [g2, g3]
        · by_cases g4 : 1114111 < c' <;> simp [g2, g3, g4]
      · by_cases g4 : 1114111 < c' <;> simp [g2, g4]

theorem f197 (s : List UInt8) (i : Int) (hs : s.length < 1000000) (hi : i < 1000000) : call E 197 [.c (.str s), V.i i] [] = some ([V.i (widthR s i)], []) := by
  refine call_of (E := E) (sh := sh) (ct := ctOf []) (na := 2) (m := 0) ctOf_nil rfl rfl rfl rfl rfl rfl ?_
  rw [t197]
  simp only [fd_br, fd_chk', fd_leaf, decide_eq_true_eq, wrap_byte]
  unfold widthR
  by_cases h0 : i < 0
  · simp [h0]
  · by_cases h1 : (s.length : Int) ≤ i
    · simp [h0, h1]
    · have c1 : i.toNat < s.length := by omega
      have c2 : 0 ≤ i := by omega
      simp only [h0, h1, if_false, c1, c2, if_true, or_self]
      have hb := byte_lt (s.getD i.toNat 0)
      generalize hbb : ((s.getD i.toNat 0).toNat : Int) = b at *
      have hb0 : 0 ≤ b := by omega
      by_cases g1 : b < 128
      · simp only [g1, if_true]
      · simp only [g1, if_false]
        by_cases g2 : 192 ≤ b ∧ b < 224
        · have : IntKind.wrap .i64 (b - 192) = b - 192 := wrap_same (by omega) (by omega)
          simp only [g2.1, g2.2, and_self, if_true, this]
          exact loop66 s i 2 (b - 192) 128 hs c2 hi (by omega) (by omega) (by omega) (by omega)
        · rw [if_neg g2]
          by_cases g3 : 224 ≤ b ∧ b < 240
          · have : IntKind.wrap .i64 (b - 224) = b - 224 := wrap_same (by omega) (by omega)
            have g4 : 192 ≤ b := by omega
            have g5 : ¬ b < 224 := by omega
            simp only [g3.1, g3.2, and_self, if_true, this, g4, g5, if_false]
            exact loop66 s i 3 (b - 224) 2048 hs c2 hi (by omega) (by omega) (by omega) (by omega)
          · rw [if_neg g3]
            by_cases g6 : 240 ≤ b ∧ b < 248
            · have : IntKind.wrap .i64 (b - 240) = b - 240 := wrap_same (by omega) (by omega)
              have g4 : 192 ≤ b := by omega
              have g5 : ¬ b < 224 := by omega
              have g7 : 224 ≤ b := by omega
              have g8 : ¬ b < 240 := by omega
              simp only [g6.1, g6.2, and_self, if_true, this, g4, g5, g7, g8, if_false]
              exact loop66 s i 4 (b - 240) 65536 hs c2 hi (by omega) (by omega) (by omega) (by omega)
            · rw [if_neg g6]
              repeat' split
              all_goals first | rfl | (exfalso; omega)
theorem s197_ok : CSpecOk E 197 s197 := by
  intro a h cs vals h' he hc
  unfold s197 at he
  split at he <;> simp only [Option.some.injEq, Prod.mk.injEq, reduceCtorEq] at he
  obtain ⟨rfl, rfl, rfl⟩ := he
  simp only [allT, Bool.and_eq_true, and_true, decide_eq_true_eq] at hc
  exact f197 _ _ hc.1 hc.2

/-! ## the reference's code points are the library's -/
def finW (n c least : Nat) : Nat := if c < least then 0 else if 55296 ≤ c ∧ c < 57344 then 0 else if 1114111 < c then 0 else n
def wN (v0 v1 v2 v3 : Nat) (p1 p2 p3 : Bool) : Nat :=
  if v0 < 128 then 1 else if 192 ≤ v0 ∧ v0 < 224 then (if p1 = true ∧ v1 / 64 = 2 then finW 2 (64 * (v0 - 192) + v1 % 64) 128 else 0)
  else if 224 ≤ v0 ∧ v0 < 240 then (if p1 = true ∧ v1 / 64 = 2 then (if p2 = true ∧ v2 / 64 = 2 then finW 3 (64 * (64 * (v0 - 224) + v1 % 64) + v2 % 64) 2048 else 0) else 0)
  else if 240 ≤ v0 ∧ v0 < 248 then (if p1 = true ∧ v1 / 64 = 2 then (if p2 = true ∧ v2 / 64 = 2 then (if p3 = true ∧ v3 / 64 = 2 then finW 4 (64 * (64 * (64 * (v0 - 240) + v1 % 64) + v2 % 64) + v3 % 64) 65536 else 0) else 0) else 0)
  else 0
def finI (n least : Int) : Option Int → Int
  | none => 0
  | some c => if c < least then 0 else if 55296 ≤ c ∧ c < 57344 then 0 else if 1114111 < c then 0 else n
theorem widthE_fin (s : List UInt8) (i n c least : Nat) (hn : 1 ≤ n) : widthE s i n c least = finI n least (widthG s i (n - 1) 1 c) := by
  unfold widthE
  rw [show ((n : Int) - 1).toNat = n - 1 by omega]
  rfl
theorem widthG_step (s : List UInt8) (i k f c : Nat) : widthG s i (f + 1) k c = if i + k < s.length ∧ (s.getD (i + k) 0).toNat / 64 = 2 then widthG s i f ((k + 1 : Nat) : Int) ((64 * c + (s.getD (i + k) 0).toNat % 64 : Nat) : Int) else none := by
  rw [widthG]
  have e : ((i : Int) + (k : Int)).toNat = i + k := by omega
  have htd : ((s.getD (i + k) 0).toNat : Int).tdiv 64 = (((s.getD (i + k) 0).toNat / 64 : Nat) : Int) := rfl
  have htm : ((s.getD (i + k) 0).toNat : Int).tmod 64 = (((s.getD (i + k) 0).toNat % 64 : Nat) : Int) := rfl
  rw [e, htd, htm]
  by_cases h1 : i + k < s.length
  · by_cases h2 : (s.getD (i + k) 0).toNat / 64 = 2
    · have h3 : ¬ (s.length : Int) ≤ (i : Int) + k := by omega
      have h4 : (((s.getD (i + k) 0).toNat / 64 : Nat) : Int) = 2 := by omega
      rw [if_neg h3, if_neg (fun h => h h4), if_pos ⟨h1, h2⟩]
      congr 1
    · have h3 : ¬ (s.length : Int) ≤ (i : Int) + k := by omega
      have h4 : (((s.getD (i + k) 0).toNat / 64 : Nat) : Int) ≠ 2 := by omega
      rw [if_neg h3, if_pos h4, if_neg (fun h => h2 h.2)]
  · have h3 : (s.length : Int) ≤ (i : Int) + k := by omega
    rw [if_pos h3, if_neg (fun h => h1 h.1)]
theorem fin_cast (n c least : Nat) : (if (c : Int) < least then 0 else if 55296 ≤ (c : Int) ∧ (c : Int) < 57344 then 0 else if 1114111 < (c : Int) then 0 else (n : Int)) = (finW n c least : Nat) := by
  unfold finW
  by_cases h1 : c < least
  · rw [if_pos (by omega), if_pos h1]; rfl
  · rw [if_neg (by omega), if_neg h1]
    by_cases h2 : 55296 ≤ c ∧ c < 57344
    · rw [if_pos (by omega), if_pos h2]; rfl
    · rw [if_neg (by omega), if_neg h2]
      by_cases h3 : 1114111 < c
      · rw [if_pos (by omega), if_pos h3]; rfl
      · rw [if_neg (by omega), if_neg h3]
theorem finI_cast (n c least : Nat) : finI n least (some (c : Int)) = (finW n c least : Nat) := fin_cast n c least
theorem fin2 (c : Nat) : finI 2 128 (some (c : Int)) = (finW 2 c 128 : Nat) := finI_cast 2 c 128
theorem fin3 (c : Nat) : finI 3 2048 (some (c : Int)) = (finW 3 c 2048 : Nat) := finI_cast 3 c 2048
theorem fin4 (c : Nat) : finI 4 65536 (some (c : Int)) = (finW 4 c 65536 : Nat) := finI_cast 4 c 65536
theorem width_n (s : List UInt8) (i : Nat) (h : i < s.length) : widthR s i = (wN (s.getD i 0).toNat (s.getD (i + 1) 0).toNat (s.getD (i + 2) 0).toNat (s.getD (i + 3) 0).toNat (decide (i + 1 < s.length)) (decide (i + 2 < s.length)) (decide (i + 3 < s.length)) : Nat) := by
  have hne : ¬ ((i : Int) < 0 ∨ (s.length : Int) ≤ i) := by omega
  unfold widthR wN
  rw [if_neg hne]
  simp only [Int.toNat_natCast, decide_eq_true_eq]
  generalize (s.getD i 0).toNat = v0
  have E : ∀ (n d least : Nat), 1 ≤ n → d ≤ v0 → widthE s i (n : Int) ((v0 : Int) - d) least = finI n least (widthG s i (n - 1) 1 ((v0 - d : Nat) : Int)) := fun n d least hn hd => by
    rw [← widthE_fin s i n (v0 - d) least hn, show ((v0 : Int) - d) = ((v0 - d : Nat) : Int) by omega]
  by_cases c0 : v0 < 128
  · rw [if_pos (by omega), if_pos c0]; rfl
  rw [if_neg (by omega), if_neg c0]
  by_cases c1 : 192 ≤ v0 ∧ v0 < 224
  · rw [if_pos (by omega), if_pos c1]
    have this : widthE s i 2 ((v0 : Int) - 192) 128 = finI 2 128 (widthG s i (2 - 1) 1 ((v0 - 192 : Nat) : Int)) := E 2 192 128 (by omega) c1.1
    rw [this, show (2 - 1 : Nat) = 0 + 1 from rfl, show (1 : Int) = ((1 : Nat) : Int) from rfl, widthG_step]
    by_cases h1 : i + 1 < s.length ∧ (s.getD (i + 1) 0).toNat / 64 = 2
    · rw [if_pos h1, if_pos h1, widthG]
      rw [fin2]
    · rw [if_neg h1, if_neg h1]; rfl
  rw [if_neg (by omega), if_neg c1]
  by_cases c2 : 224 ≤ v0 ∧ v0 < 240
  · rw [if_pos (by omega), if_pos c2]
    have this : widthE s i 3 ((v0 : Int) - 224) 2048 = finI 3 2048 (widthG s i (3 - 1) 1 ((v0 - 224 : Nat) : Int)) := E 3 224 2048 (by omega) c2.1
    rw [this, show (3 - 1 : Nat) = 1 + 1 from rfl, show (1 : Int) = ((1 : Nat) : Int) from rfl, widthG_step]
    by_cases h1 : i + 1 < s.length ∧ (s.getD (i + 1) 0).toNat / 64 = 2
    · rw [if_pos h1, if_pos h1, show (1 : Nat) = 0 + 1 from rfl, widthG_step]
      by_cases h2 : i + 2 < s.length ∧ (s.getD (i + 2) 0).toNat / 64 = 2
      · rw [if_pos h2, if_pos h2, widthG]
        rw [fin3]
      · rw [if_neg h2, if_neg h2]; rfl
    · rw [if_neg h1, if_neg h1]; rfl
  rw [if_neg (by omega), if_neg c2]
  by_cases c3 : 240 ≤ v0 ∧ v0 < 248
  · rw [if_pos (by omega), if_pos c3]
    have this : widthE s i 4 ((v0 : Int) - 240) 65536 = finI 4 65536 (widthG s i (4 - 1) 1 ((v0 - 240 : Nat) : Int)) := E 4 240 65536 (by omega) c3.1
    rw [this, show (4 - 1 : Nat) = 2 + 1 from rfl, show (1 : Int) = ((1 : Nat) : Int) from rfl, widthG_step]
    by_cases h1 : i + 1 < s.length ∧ (s.getD (i + 1) 0).toNat / 64 = 2
    · rw [if_pos h1, if_pos h1, show (2 : Nat) = 1 + 1 from rfl, widthG_step]
      by_cases h2 : i + 2 < s.length ∧ (s.getD (i + 2) 0).toNat / 64 = 2
      · rw [if_pos h2, if_pos h2, widthG_step]
        by_cases h3 : i + 3 < s.length ∧ (s.getD (i + 3) 0).toNat / 64 = 2
        · rw [if_pos h3, if_pos h3, widthG]
          rw [fin4]
        · rw [if_neg h3, if_neg h3]; rfl
      · rw [if_neg h2, if_neg h2]; rfl
    · rw [if_neg h1, if_neg h1]; rfl
  rw [if_neg (by omega), if_neg c3]; rfl
def dN (v0 v1 v2 v3 : Nat) (p1 p2 p3 : Bool) : Nat × Nat :=
  if v0 < 0x80 then (v0, 1)
  else if v0 / 32 == 6 && (p1 && v1 / 64 == 2) then
    let c := (v0 % 32) * 64 + v1 % 64
    if c ≥ 0x80 then (c, 2) else (Utf8.runeError, 1)
  else if v0 / 16 == 14 && (p1 && v1 / 64 == 2) && (p2 && v2 / 64 == 2) then
    let c := (v0 % 16) * 4096 + (v1 % 64) * 64 + v2 % 64
    if c ≥ 0x800 && Utf8.valid c then (c, 3) else (Utf8.runeError, 1)
  else if v0 / 8 == 30 && (p1 && v1 / 64 == 2) && (p2 && v2 / 64 == 2) && (p3 && v3 / 64 == 2) then
    let c := (v0 % 8) * 262144 + (v1 % 64) * 4096 + (v2 % 64) * 64 + v3 % 64
    if c ≥ 0x10000 && Utf8.valid c then (c, 4) else (Utf8.runeError, 1)
  else (Utf8.runeError, 1)
theorem get_nat (s : List UInt8) (j : Nat) : ((ByteArray.mk s.toArray).get! j).toNat = (s.getD j 0).toNat := by
  simp only [ByteArray.get!, List.getD_eq_getElem?_getD]
  by_cases h : j < s.length
  · simp [h]
  · simp [h]; rfl
theorem decode_n (s : List UInt8) (i : Nat) : Utf8.decode ⟨s.toArray⟩ i = dN (s.getD i 0).toNat (s.getD (i + 1) 0).toNat (s.getD (i + 2) 0).toNat (s.getD (i + 3) 0).toNat (decide (i + 1 < s.length)) (decide (i + 2 < s.length)) (decide (i + 3 < s.length)) := by
  have hsz : (ByteArray.mk s.toArray).size = s.length := by simp [ByteArray.size]
  unfold Utf8.decode dN
  simp only [get_nat, hsz, Nat.add_zero]
theorem valid_iff (c : Nat) : Utf8.valid (c : Int) = true ↔ (c < 55296 ∨ (57344 ≤ c ∧ c ≤ 1114111)) := by
  unfold Utf8.valid
  rw [Bool.or_eq_true, Bool.and_eq_true, Bool.and_eq_true, decide_eq_true_eq, decide_eq_true_eq, decide_eq_true_eq, decide_eq_true_eq]
  constructor
  · rintro (⟨h1, h2⟩ | ⟨h1, h2⟩)
    · left; omega
    · right; exact ⟨by omega, by omega⟩
  · rintro (h | ⟨h1, h2⟩)
    · left; exact ⟨by omega, by omega⟩
    · right; exact ⟨by omega, by omega⟩
/-- What the one tells as the other does. -/
def wOf (d : Nat × Nat) : Nat := if d.1 = 65533 ∧ d.2 < 2 then 0 else d.2
theorem wOf_bad : wOf (Utf8.runeError, 1) = 0 := by simp [wOf, Utf8.runeError]
theorem fin_wOf (c n least : Nat) (hn : 2 ≤ n) : finW n c least = wOf (if (decide (c ≥ least) && Utf8.valid (c : Int)) = true then (c, n) else (Utf8.runeError, 1)) := by
  have hv := valid_iff c
  by_cases h : c < least
  · have : ¬ (decide (c ≥ least) && Utf8.valid (c : Int)) = true := by simp; omega
    rw [if_neg this, wOf_bad, finW, if_pos h]
  · by_cases h2 : Utf8.valid (c : Int) = true
    · have : (decide (c ≥ least) && Utf8.valid (c : Int)) = true := by simp [h2]; omega
      rw [if_pos this, finW, if_neg h]
      have h2 := hv.1 h2
      have e1 : ¬ (55296 ≤ c ∧ c < 57344) := by omega
      have e2 : ¬ (1114111 < c) := by omega
      rw [if_neg e1, if_neg e2, wOf, if_neg (by simp; omega)]
    · have : ¬ (decide (c ≥ least) && Utf8.valid (c : Int)) = true := by simp [h2]
      rw [if_neg this, wOf_bad, finW, if_neg h]
      have h2 : ¬ (c < 55296 ∨ (57344 ≤ c ∧ c ≤ 1114111)) := fun h => h2 (hv.2 h)
      by_cases e1 : 55296 ≤ c ∧ c < 57344
      · rw [if_pos e1]
      · have e2 : 1114111 < c := by omega
        rw [if_neg e1, if_pos e2]
theorem fin_wOf2 (c : Nat) (h : c < 2048) : finW 2 c 128 = wOf (if c ≥ 0x80 then (c, 2) else (Utf8.runeError, 1)) := by
  by_cases h1 : c < 128
  · rw [if_neg (by omega), wOf_bad, finW, if_pos h1]
  · have e1 : ¬ (55296 ≤ c ∧ c < 57344) := by omega
    have e2 : ¬ (1114111 < c) := by omega
    rw [if_pos (by omega), finW, if_neg h1, if_neg e1, if_neg e2, wOf, if_neg (by simp)]
theorem w_d (v0 v1 v2 v3 : Nat) (p1 p2 p3 : Bool) (h0 : v0 < 256) (h1 : v1 < 256) (h2 : v2 < 256) (h3 : v3 < 256) : wN v0 v1 v2 v3 p1 p2 p3 = wOf (dN v0 v1 v2 v3 p1 p2 p3) := by
  unfold wN dN
  by_cases c0 : v0 < 128
  · rw [if_pos c0, if_pos c0, wOf, if_neg (by simp; omega)]
  rw [if_neg c0, if_neg c0]
  have cont : ∀ (p : Bool) (v : Nat), (p && v / 64 == 2) = decide (p = true ∧ v / 64 = 2) := fun p v => by
    rw [Bool.eq_iff_iff]; simp
  simp only [cont]
  by_cases c1 : 192 ≤ v0 ∧ v0 < 224
  · have q1 : (v0 / 32 == 6) = true := by rw [beq_iff_eq]; omega
    have q2 : (v0 / 16 == 14) = false := by rw [beq_eq_false_iff_ne]; omega
    have q3 : (v0 / 8 == 30) = false := by rw [beq_eq_false_iff_ne]; omega
    have e : (v0 % 32) * 64 + v1 % 64 = 64 * (v0 - 192) + v1 % 64 := by omega
    rw [if_pos c1, q1, q2, q3, e]
    by_cases g1 : p1 = true ∧ v1 / 64 = 2
    · rw [if_pos g1, decide_eq_true g1, Bool.true_and, if_pos rfl]
      exact fin_wOf2 _ (by omega)
    · rw [if_neg g1, decide_eq_false g1, Bool.true_and, if_neg Bool.false_ne_true]
      simp only [Bool.false_and, Bool.false_eq_true, if_false]
      exact wOf_bad.symm
  have q1 : (v0 / 32 == 6) = false := by rw [beq_eq_false_iff_ne]; omega
  rw [if_neg c1, q1, Bool.false_and, if_neg Bool.false_ne_true]
  by_cases c2 : 224 ≤ v0 ∧ v0 < 240
  · have q2 : (v0 / 16 == 14) = true := by rw [beq_iff_eq]; omega
    have q3 : (v0 / 8 == 30) = false := by rw [beq_eq_false_iff_ne]; omega
    have e : (v0 % 16) * 4096 + (v1 % 64) * 64 + v2 % 64 = 64 * (64 * (v0 - 224) + v1 % 64) + v2 % 64 := by omega
    rw [if_pos c2, q2, q3, e]
    by_cases g1 : p1 = true ∧ v1 / 64 = 2
    · by_cases g2 : p2 = true ∧ v2 / 64 = 2
      · rw [if_pos g1, if_pos g2, decide_eq_true g1, decide_eq_true g2, Bool.true_and, Bool.true_and, if_pos rfl]
        exact fin_wOf _ 3 2048 (by omega)
      · rw [if_pos g1, if_neg g2, decide_eq_true g1, decide_eq_false g2, Bool.and_false, if_neg Bool.false_ne_true]
        simp only [Bool.false_and, Bool.false_eq_true, if_false]
        exact wOf_bad.symm
    · rw [if_neg g1, decide_eq_false g1, Bool.and_false, Bool.false_and, if_neg Bool.false_ne_true]
      simp only [Bool.false_and, Bool.false_eq_true, if_false]
      exact wOf_bad.symm
  have q2 : (v0 / 16 == 14) = false := by rw [beq_eq_false_iff_ne]; omega
  rw [if_neg c2, q2, Bool.false_and, Bool.false_and, if_neg Bool.false_ne_true]
  by_cases c3 : 240 ≤ v0 ∧ v0 < 248
  · have q3 : (v0 / 8 == 30) = true := by rw [beq_iff_eq]; omega
    have e : (v0 % 8) * 262144 + (v1 % 64) * 4096 + (v2 % 64) * 64 + v3 % 64 = 64 * (64 * (64 * (v0 - 240) + v1 % 64) + v2 % 64) + v3 % 64 := by omega
    rw [if_pos c3, q3, e]
    by_cases g1 : p1 = true ∧ v1 / 64 = 2
    · by_cases g2 : p2 = true ∧ v2 / 64 = 2
      · by_cases g3 : p3 = true ∧ v3 / 64 = 2
        · rw [if_pos g1, if_pos g2, if_pos g3, decide_eq_true g1, decide_eq_true g2, decide_eq_true g3, Bool.true_and, Bool.true_and, Bool.true_and, if_pos rfl]
          exact fin_wOf _ 4 65536 (by omega)
        · rw [if_pos g1, if_pos g2, if_neg g3, decide_eq_false g3, Bool.and_false, if_neg Bool.false_ne_true]
          exact wOf_bad.symm
      · rw [if_pos g1, if_neg g2, decide_eq_false g2, Bool.and_false, Bool.false_and, if_neg Bool.false_ne_true]
        exact wOf_bad.symm
    · rw [if_neg g1, decide_eq_false g1, Bool.and_false, Bool.false_and, Bool.false_and, if_neg Bool.false_ne_true]
      exact wOf_bad.symm
  · have q3 : (v0 / 8 == 30) = false := by rw [beq_eq_false_iff_ne]; omega
    rw [if_neg c3, q3, Bool.false_and, Bool.false_and, Bool.false_and, if_neg Bool.false_ne_true]
    exact wOf_bad.symm
theorem width_decode (s : List UInt8) (i : Nat) (h : i < s.length) : widthR s i = if (Utf8.decode ⟨s.toArray⟩ i).1 = 65533 ∧ (Utf8.decode ⟨s.toArray⟩ i).2 < 2 then 0 else ((Utf8.decode ⟨s.toArray⟩ i).2 : Int) := by
  have hlt : ∀ k, (s.getD k 0).toNat < 256 := fun k => (s.getD k 0).toNat_lt
  rw [width_n s i h, w_d _ _ _ _ _ _ _ (hlt _) (hlt _) (hlt _) (hlt _), ← decode_n, wOf]
  split <;> rfl
theorem runes_eq (s : List UInt8) : ∀ (f pos : Nat) (n : Int), s.length ≤ pos + f → 0 ≤ n → runesR s (f + 1) pos n = match runesN ⟨s.toArray⟩ f pos with | none => -1 | some k => n + k
  | f, pos, n, h, hn => by
    have hsz : (ByteArray.mk s.toArray).size = s.length := by simp [ByteArray.size]
    by_cases hp : pos < s.length
    · have hp' : (pos : Int) < s.length := by omega
      have hps : pos < (ByteArray.mk s.toArray).size := by rw [hsz]; exact hp
      have hwd := width_decode s pos hp
      cases f with
      | zero => omega
      | succ f =>
        by_cases hb : (Utf8.decode ⟨s.toArray⟩ pos).1 = 65533 ∧ (Utf8.decode ⟨s.toArray⟩ pos).2 < 2
        · rw [if_pos hb] at hwd
          rw [runesR, if_pos hp', if_pos hwd, runesN, if_pos hps, if_pos hb]
        · rw [if_neg hb] at hwd
          have hw := width_pos ⟨s.toArray⟩ pos
          have hne : ¬ widthR s pos = 0 := by rw [hwd]; omega
          have := runes_eq s f (pos + (Utf8.decode ⟨s.toArray⟩ pos).2) (n + 1) (by omega) (by omega)
          rw [runesR, if_pos hp', if_neg hne, hwd, runesN, if_pos hps, if_neg hb]
          rw [show (pos : Int) + ((Utf8.decode ⟨s.toArray⟩ pos).2 : Int) = ((pos + (Utf8.decode ⟨s.toArray⟩ pos).2 : Nat) : Int) by omega, this]
          cases runesN ⟨s.toArray⟩ f (pos + (Utf8.decode ⟨s.toArray⟩ pos).2) with
          | none => rfl
          | some k =>
            show n + 1 + (k : Int) = n + ((k + 1 : Nat) : Int)
            omega
    · have hp' : ¬ (pos : Int) < s.length := by omega
      rw [runesR, if_neg hp', runesN_end (⟨s.toArray⟩ : ByteArray) (by rw [hsz]; exact hp)]
      simp
theorem runes_same (s : List UInt8) : runesR s (s.length + 1) 0 0 = runesL s := by
  have := runes_eq s s.length 0 0 (by omega) (by omega)
  simp only [Int.natCast_zero] at this
  rw [this, runesL]
  cases runesN ⟨s.toArray⟩ s.length 0 with
  | none => rfl
  | some k => simp [runesI]
theorem valR_eq (v : Val) : valR v = decide (checkV v = 0) := by
  unfold valR checkV
  rw [runes_same]
  by_cases h1 : v.k = 1
  · by_cases h2 : v.s = [] <;> simp [h1, h2]
  · by_cases h3 : v.k = 2
    · by_cases h4 : v.n = 0
      · by_cases h5 : v.s.length ≤ 40
        · by_cases h6 : 0 ≤ runesL v.s <;> simp [h3, h4, h5, h6]
        · simp [h3, h4, h5]
      · simp [h3, h4]
    · simp [h1, h3]
end Go.Proofs.YtbilmkcdhodenaaDoor

end

/-
  Chapter 02 (span): the reference's Runes, Right, over, Same.
-/
section
namespace Go.Proofs.YtbilmkcdhodenaaDoor
open Go Go.Ev

theorem width_bounds (s : List UInt8) (i : Nat) (h : i < s.length) : 0 ≤ widthR s i ∧ widthR s i ≤ 4 := by
  have h4 : ∀ n c least, finW n c least ≤ n := fun n c least => by
    unfold finW
    split
    · omega
    · split
      · omega
      · split <;> omega
  rw [width_n s i h]
  refine ⟨by omega, ?_⟩
  have : ∀ v0 v1 v2 v3 p1 p2 p3, wN v0 v1 v2 v3 p1 p2 p3 ≤ 4 := by
    intro v0 v1 v2 v3 p1 p2 p3
    have a2 := h4 2 (64 * (v0 - 192) + v1 % 64) 128
    have a3 := h4 3 (64 * (64 * (v0 - 224) + v1 % 64) + v2 % 64) 2048
    have a4 := h4 4 (64 * (64 * (64 * (v0 - 240) + v1 % 64) + v2 % 64) + v3 % 64) 65536
    unfold wN
    repeat' split
    all_goals omega
  have := this (s.getD i 0).toNat (s.getD (i + 1) 0).toNat (s.getD (i + 2) 0).toNat (s.getD (i + 3) 0).toNat (decide (i + 1 < s.length)) (decide (i + 2 < s.length)) (decide (i + 3 < s.length))
  omega
theorem f172 (s : List UInt8) (hs : s.length < 1000000) : call E 172 [.c (.str s)] [] = some ([V.i (runesR s (s.length + 1) 0 0)], []) := by
  have hct : (ctOf [(197, s197)]).ok E := ctOf_cons s197_ok ctOf_nil
  refine call_of (E := E) (sh := sh) (ct := ctOf [(197, s197)]) (na := 1) (m := 0) hct rfl rfl rfl rfl rfl rfl ?_
  rw [t172]
  refine fd_post hct (by kernel_rfl) rfl (loops_post hct (b := b172_0) (ι := Nat × Nat × Nat) (fun i => s172_0 s (i.1 : Int) (i.2.1 : Int)) (fun i => runesR s i.2.2 i.2.1 i.1 = runesR s (s.length + 1) 0 0 ∧ i.1 ≤ i.2.1 ∧ s.length + 1 ≤ i.2.1 + i.2.2 ∧ i.2.1 ≤ s.length + 4 ∧ 0 < i.2.2) (fun i => s.length + 5 - i.2.1) _ ?_ (0, 0, s.length + 1) ⟨rfl, by simp, by simp, by simp, by simp⟩)
  rintro ⟨n, pos, f⟩ ⟨h1, h2, h3, h4, h5⟩
  dsimp only at *
  rw [t172_0]
  obtain ⟨f, rfl⟩ : ∃ g, f = g + 1 := ⟨f - 1, by omega⟩
  rw [runesR] at h1
  by_cases hp : pos < s.length
  · have hp' : (pos : Int) < s.length := by omega
    have e0 : (pos : Int) < 1000000 := by omega
    simp only [ld_br, ld_chk', ld_leaf, fd_br, fd_chk', fd_leaf, decide_true, decide_eq_true_eq, if_true, Int.toNat_natCast, Int.natCast_nonneg, Int.ofNat_lt, Int.ofNat_le, Bool.false_eq_true, if_false, bne_iff_ne, beq_iff_eq, ne_eq, not_true_eq_false, not_false_eq_true, Bool.not_eq_true', decide_eq_false_iff_not, reduceCtorEq, rows_length, pcs_length, er_ok, er_ok', ep_ok, ep_ok', dr_er, dp_ep, isRows_rows, isPcs_pcs, toRows_rows, toPcs_pcs, rows_take, rows_drop, pcs_take, pcs_drop, rows_append, pcs_append, ints_length, isInts_ints, toInts_ints, ei_i, ei_ok, mk_headD, ints_take, ints_drop, ints_append, ints_snoc, ints_snoc', List.take_length, Nat.zero_add, Nat.le_refl, er_a, er_b, er_k, er_n, er_s, er_v, ep_a, ep_b, ep_hk, ep_hn, ep_hs, ep_wk, ep_wn, ep_ws, hs, e0]
    obtain ⟨b1, b2⟩ := width_bounds s pos hp
    rw [if_pos hp'] at h1
    rw [if_pos hp]
    by_cases hw : widthR s pos = 0
    · rw [if_pos hw] at h1
      right
      refine ⟨x172_0x0, by simp, ?_, by rw [if_pos hw]⟩
      rw [k172_0x0, fd_leaf, ← h1]
    · rw [if_neg hw] at h1
      left
      have e1 : (pos : Int) + widthR s pos = ((pos + (widthR s pos).toNat : Nat) : Int) := by omega
      refine ⟨(n + 1, pos + (widthR s pos).toNat, f), ⟨?_, ?_, ?_, ?_, ?_⟩, ?_, ?_⟩
      · rw [← h1, e1]; rfl
      all_goals dsimp only
      · omega
      · omega
      · omega
      · omega
      · omega
      · rw [if_neg hw, wrap_succ (by omega), e1, wrap_same (by omega) (by omega)]
  · have hp' : ¬ (pos : Int) < s.length := by omega
    rw [if_neg hp'] at h1
    simp only [ld_br, ld_chk', ld_leaf, fd_br, fd_chk', fd_leaf, decide_true, decide_eq_true_eq, if_true, Int.toNat_natCast, Int.natCast_nonneg, Int.ofNat_lt, Int.ofNat_le, Bool.false_eq_true, if_false, bne_iff_ne, beq_iff_eq, ne_eq, not_true_eq_false, not_false_eq_true, Bool.not_eq_true', decide_eq_false_iff_not, reduceCtorEq, rows_length, pcs_length, er_ok, er_ok', ep_ok, ep_ok', dr_er, dp_ep, isRows_rows, isPcs_pcs, toRows_rows, toPcs_pcs, rows_take, rows_drop, pcs_take, pcs_drop, rows_append, pcs_append, ints_length, isInts_ints, toInts_ints, ei_i, ei_ok, mk_headD, ints_take, ints_drop, ints_append, ints_snoc, ints_snoc', List.take_length, Nat.zero_add, Nat.le_refl, er_a, er_b, er_k, er_n, er_s, er_v, ep_a, ep_b, ep_hk, ep_hn, ep_hs, ep_wk, ep_wn, ep_ws]
    right
    refine ⟨x172_0x1 s n pos, by simp, ?_, by rw [if_neg hp]⟩
    rw [k172_0x1, fd_leaf, ← h1]
theorem s172_ok : CSpecOk E 172 s172 := by
  intro a h cs vals h' he hc
  unfold s172 at he
  split at he <;> simp only [Option.some.injEq, Prod.mk.injEq, reduceCtorEq] at he
  obtain ⟨rfl, rfl, rfl⟩ := he
  simp only [allT, Bool.and_true, decide_eq_true_eq] at hc
  exact f172 _ hc
theorem f136 (v : Val) : call E 136 [VV v] [] = some ([V.b (valR v)], []) := by
  obtain ⟨k, n, s⟩ := v
  refine call_of (E := E) (sh := sh) (ct := ctOf [(172, s172)]) (na := 1) (m := 0) (ctOf_cons s172_ok ctOf_nil) rfl rfl rfl rfl rfl rfl ?_
  rw [t136]
  simp only [ld_br, ld_chk', ld_leaf, fd_br, fd_chk', fd_leaf, decide_true, decide_eq_true_eq, if_true, Int.toNat_natCast, Int.natCast_nonneg, Int.ofNat_lt, Int.ofNat_le, Bool.false_eq_true, if_false, bne_iff_ne, beq_iff_eq, ne_eq, not_true_eq_false, not_false_eq_true, Bool.not_eq_true', decide_eq_false_iff_not, reduceCtorEq, rows_length, pcs_length, er_ok, er_ok', ep_ok, ep_ok', dr_er, dp_ep, isRows_rows, isPcs_pcs, toRows_rows, toPcs_pcs, rows_take, rows_drop, pcs_take, pcs_drop, rows_append, pcs_append, ints_length, isInts_ints, toInts_ints, ei_i, ei_ok, mk_headD, ints_take, ints_drop, ints_append, ints_snoc, ints_snoc', List.take_length, Nat.zero_add, Nat.le_refl, er_a, er_b, er_k, er_n, er_s, er_v, ep_a, ep_b, ep_hk, ep_hn, ep_hs, ep_wk, ep_wn, ep_ws, valR]
  have hle : ((s.length : Int) ≤ 40) = (s.length ≤ 40) := by simp; omega
  simp only [hle]
  by_cases h1 : k = 1
  · subst h1
    by_cases h2 : s = [] <;> simp [h2]
  · by_cases h3 : k = 2
    · subst h3
      by_cases h4 : n = 0
      · by_cases h5 : s.length ≤ 40
        · have h6 : s.length < 1000000 := by omega
          simp [h4, h5, h6]
        · simp [h4, h5]
      · simp [h4]
    · simp [h1, h3]
theorem s136_ok : CSpecOk E 136 s136 := by
  intro a h cs vals h' he hc
  unfold s136 at he
  split at he <;> simp only [Option.some.injEq, Prod.mk.injEq, reduceCtorEq] at he
  rename_i k n s
  obtain ⟨rfl, rfl, rfl⟩ := he
  exact f136 ⟨k, n, s⟩
theorem s135_ok : CSpecOk E 135 s135 := by
  intro a h cs vals h' he hc
  unfold s135 s170 at he
  split at he <;> simp only [Option.some.injEq, Prod.mk.injEq, reduceCtorEq] at he
  obtain ⟨rfl, rfl, rfl⟩ := he
  exact f135 _ _
theorem f90 (l : List Row) (nl : Option Bool) (tt : Bool) : call E 90 [.c (.sl 5 nl tt (rows l))] [] = some ([V.b (right l)], []) := by
  have hct : (ctOf [(135, s135), (136, s136)]).ok E := ctOf_cons s135_ok (ctOf_cons s136_ok ctOf_nil)
  refine call_of (E := E) (sh := sh) (ct := ctOf [(135, s135), (136, s136)]) (na := 1) (m := 0) hct rfl rfl rfl rfl rfl rfl ?_
  rw [t90, rows_length]
  simp only [fd_br, decide_eq_true_eq]
  by_cases hl : (64 : Int) < l.length
  · rw [if_pos hl, fd_leaf]
    have : right l = false := by simp [right]; omega
    rw [this]
  · rw [if_neg hl]
    have hr : right l = okFrom none l := by simp [right]; omega
    rw [hr]
    refine fd_post hct (by kernel_rfl) rfl (list_post hct (b := b90_0) l.length (fun k (_ : Unit) => s90_0 nl tt (rows l) k) (fun k _ => okFrom (if k = 0 then none else l[k - 1]?) (l.drop k) = okFrom none l) _ ?_ ?_ 0 (Nat.zero_le _) () (by rfl))
    · intro k _ hk hi
      rw [List.drop_eq_getElem_cons hk] at hi
      simp only [okFrom] at hi
      rw [t90_0]
      simp only [ld_br, ld_chk', ld_leaf, fd_br, fd_chk', fd_leaf, decide_true, decide_eq_true_eq, if_true, Int.toNat_natCast, Int.natCast_nonneg, Int.ofNat_lt, Int.ofNat_le, Bool.false_eq_true, if_false, bne_iff_ne, beq_iff_eq, ne_eq, not_true_eq_false, not_false_eq_true, Bool.not_eq_true', decide_eq_false_iff_not, reduceCtorEq, rows_length, pcs_length, er_ok, er_ok', ep_ok, ep_ok', dr_er, dp_ep, isRows_rows, isPcs_pcs, toRows_rows, toPcs_pcs, rows_take, rows_drop, pcs_take, pcs_drop, rows_append, pcs_append, ints_length, isInts_ints, toInts_ints, ei_i, ei_ok, mk_headD, ints_take, ints_drop, ints_append, ints_snoc, ints_snoc', List.take_length, Nat.zero_add, Nat.le_refl, er_a, er_b, er_k, er_n, er_s, er_v, ep_a, ep_b, ep_hk, ep_hn, ep_hs, ep_wk, ep_wn, ep_ws, hk, rows_getD hk, wrap_succ (show k < 9223372036854775807 by omega), valR_eq]
      have ex0 : ∀ {b : Bool}, b = false → p90.fd (p90.fkx 0 x90_0x0) = some (.out [V.b b] []) := fun h => by rw [k90_0x0, fd_leaf, h]
      by_cases h1 : isSpan l[k].a l[k].b = false
      · right
        refine ⟨x90_0x0, by simp, ex0 (by rw [← hi, h1]; rfl), ?_⟩
        rw [if_pos h1]
      · rw [if_neg h1]
        have h1' : isSpan l[k].a l[k].b = true := by simpa using h1
        by_cases h2 : checkV l[k].v = 0
        · simp only [h2, not_true_eq_false, if_false]
          rw [h1', decide_eq_true h2, Bool.true_and, Bool.true_and] at hi
          cases k with
          | zero =>
            left
            refine ⟨(), ?_, ?_⟩
            · rw [← hi]; simp [List.getElem?_eq_getElem hk]
            · simp
          | succ k =>
            have hk' : k < l.length := by omega
            have e1 : l[k + 1 - 1]? = some l[k] := by simp [hk']
            rw [if_neg (by omega), e1] at hi
            simp only at hi
            have hw2 : IntKind.wrap .i64 (((k + 1 : Nat) : Int) - 1) = (k : Int) := by rw [wrap_same (by omega) (by omega)]; omega
            have hpos : (0 : Int) < ((k + 1 : Nat) : Int) := by omega
            simp only [hpos, if_true, hw2, Int.natCast_nonneg, Int.toNat_natCast, hk', rows_getD hk', er_ok', er_a, er_b, er_k, er_n, er_s, val_eqb, decide_eq_true_eq]
            by_cases h3 : l[k + 1].a < l[k].b
            · right
              refine ⟨x90_0x0, by simp, ex0 (by rw [← hi]; simp [h3]), by rw [if_pos h3]⟩
            · by_cases h4 : l[k + 1].a = l[k].b
              · by_cases h5 : l[k + 1].v = l[k].v
                · right
                  refine ⟨x90_0x0, by simp, ex0 (by rw [← hi]; simp [h4, h5]), by rw [if_neg h3, if_pos h4, if_pos h5]⟩
                · left
                  refine ⟨(), ?_, by rw [if_neg h3, if_pos h4, if_neg h5]⟩
                  rw [← hi]; simp [h3, h5, List.getElem?_eq_getElem hk]
              · left
                refine ⟨(), ?_, by rw [if_neg h3, if_neg h4]⟩
                rw [← hi]; simp [h3, h4, List.getElem?_eq_getElem hk]
        · right
          refine ⟨x90_0x0, by simp, ex0 (by rw [← hi]; simp [h2]), ?_⟩
          rw [if_pos h2]
    · intro _ hi
      rw [List.drop_length] at hi
      simp only [okFrom] at hi
      rw [t90_0]
      refine ⟨x90_0x1 nl tt (rows l) l.length, by simp, ?_, by simp only [ld_br, ld_chk', ld_leaf, fd_br, fd_chk', fd_leaf, decide_true, decide_eq_true_eq, if_true, Int.toNat_natCast, Int.natCast_nonneg, Int.ofNat_lt, Int.ofNat_le, Bool.false_eq_true, if_false, bne_iff_ne, beq_iff_eq, ne_eq, not_true_eq_false, not_false_eq_true, Bool.not_eq_true', decide_eq_false_iff_not, reduceCtorEq, rows_length, pcs_length, er_ok, er_ok', ep_ok, ep_ok', dr_er, dp_ep, isRows_rows, isPcs_pcs, toRows_rows, toPcs_pcs, rows_take, rows_drop, pcs_take, pcs_drop, rows_append, pcs_append, ints_length, isInts_ints, toInts_ints, ei_i, ei_ok, mk_headD, ints_take, ints_drop, ints_append, ints_snoc, ints_snoc', List.take_length, Nat.zero_add, Nat.le_refl, er_a, er_b, er_k, er_n, er_s, er_v, ep_a, ep_b, ep_hk, ep_hn, ep_hs, ep_wk, ep_wn, ep_ws, Nat.lt_irrefl]⟩
      rw [k90_0x1, fd_leaf, ← hi]

/-! ## the same -/
theorem row_eqb (x y : Row) : (x.a == y.a && (x.b == y.b && (x.v.k == y.v.k && (x.v.n == y.v.n && (x.v.s == y.v.s && true))))) = decide (x = y) := by
  obtain ⟨a, b, ⟨k, m, s⟩⟩ := x
  obtain ⟨a', b', ⟨k', m', s'⟩⟩ := y
  rw [Bool.eq_iff_iff]
  simp
theorem take_ext {α : Type} {l m : List α} {k : Nat} (h1 : l.take k = m.take k) (hk : k < l.length) (hm : k < m.length) (he : l[k] = m[k]) : l.take (k + 1) = m.take (k + 1) := by
  rw [List.take_succ, List.take_succ, h1, List.getElem?_eq_getElem hk, List.getElem?_eq_getElem hm, he]
theorem f72 (l m : List Row) (nl : Option Bool) (tt : Bool) (nl2 : Option Bool) (t2 : Bool) (hl : l.length < 4294967296) : call E 72 [.c (.sl 5 nl tt (rows l)), .c (.sl 5 nl2 t2 (rows m))] [] = some ([V.b (decide (l = m))], []) := by
  refine call_of (E := E) (sh := sh) (ct := ctOf []) (na := 2) (m := 0) ctOf_nil rfl rfl rfl rfl rfl rfl ?_
  rw [t72]
  simp only [ld_br, ld_chk', ld_leaf, fd_br, fd_chk', fd_leaf, decide_true, decide_eq_true_eq, if_true, Int.toNat_natCast, Int.natCast_nonneg, Int.ofNat_lt, Int.ofNat_le, Bool.false_eq_true, if_false, bne_iff_ne, beq_iff_eq, ne_eq, not_true_eq_false, not_false_eq_true, Bool.not_eq_true', decide_eq_false_iff_not, reduceCtorEq, rows_length, pcs_length, er_ok, er_ok', ep_ok, ep_ok', dr_er, dp_ep, isRows_rows, isPcs_pcs, toRows_rows, toPcs_pcs, rows_take, rows_drop, pcs_take, pcs_drop, rows_append, pcs_append, ints_length, isInts_ints, toInts_ints, ei_i, ei_ok, mk_headD, ints_take, ints_drop, ints_append, ints_snoc, ints_snoc', List.take_length, Nat.zero_add, Nat.le_refl, er_a, er_b, er_k, er_n, er_s, er_v, ep_a, ep_b, ep_hk, ep_hn, ep_hs, ep_wk, ep_wn, ep_ws]
  by_cases h : l.length = m.length
  · have h' : ¬ ¬ (l.length : Int) = m.length := by omega
    rw [if_neg h']
    refine fd_post ctOf_nil (by kernel_rfl) rfl (list_post ctOf_nil (b := b72_0) l.length (fun k (_ : Unit) => s72_0 nl tt (rows l) nl2 t2 (rows m) k) (fun k _ => l.take k = m.take k) _ ?_ ?_ 0 (Nat.zero_le _) () (by rfl))
    · intro k _ hk hi
      have hm : k < m.length := by omega
      rw [t72_0]
      simp only [ld_br, ld_chk', ld_leaf, fd_br, fd_chk', fd_leaf, decide_true, decide_eq_true_eq, if_true, Int.toNat_natCast, Int.natCast_nonneg, Int.ofNat_lt, Int.ofNat_le, Bool.false_eq_true, if_false, bne_iff_ne, beq_iff_eq, ne_eq, not_true_eq_false, not_false_eq_true, Bool.not_eq_true', decide_eq_false_iff_not, reduceCtorEq, rows_length, pcs_length, er_ok, er_ok', ep_ok, ep_ok', dr_er, dp_ep, isRows_rows, isPcs_pcs, toRows_rows, toPcs_pcs, rows_take, rows_drop, pcs_take, pcs_drop, rows_append, pcs_append, ints_length, isInts_ints, toInts_ints, ei_i, ei_ok, mk_headD, ints_take, ints_drop, ints_append, ints_snoc, ints_snoc', List.take_length, Nat.zero_add, Nat.le_refl, er_a, er_b, er_k, er_n, er_s, er_v, ep_a, ep_b, ep_hk, ep_hn, ep_hs, ep_wk, ep_wn, ep_ws, hk, hm, rows_getD hk, rows_getD hm, row_eqb, wrap_succ (show k < 9223372036854775807 by omega)]
      by_cases he : l[k] = m[k]
      · left
        exact ⟨(), take_ext hi hk hm he, by simp [he]⟩
      · right
        refine ⟨x72_0x0, by simp, ?_, by simp [he]⟩
        rw [k72_0x0, fd_leaf, decide_eq_false (fun e => he (by subst e; rfl))]
    · intro _ hi
      rw [t72_0]
      refine ⟨x72_0x1 nl tt (rows l) nl2 t2 (rows m) l.length, by simp, ?_, by simp only [ld_br, ld_chk', ld_leaf, fd_br, fd_chk', fd_leaf, decide_true, decide_eq_true_eq, if_true, Int.toNat_natCast, Int.natCast_nonneg, Int.ofNat_lt, Int.ofNat_le, Bool.false_eq_true, if_false, bne_iff_ne, beq_iff_eq, ne_eq, not_true_eq_false, not_false_eq_true, Bool.not_eq_true', decide_eq_false_iff_not, reduceCtorEq, rows_length, pcs_length, er_ok, er_ok', ep_ok, ep_ok', dr_er, dp_ep, isRows_rows, isPcs_pcs, toRows_rows, toPcs_pcs, rows_take, rows_drop, pcs_take, pcs_drop, rows_append, pcs_append, ints_length, isInts_ints, toInts_ints, ei_i, ei_ok, mk_headD, ints_take, ints_drop, ints_append, ints_snoc, ints_snoc', List.take_length, Nat.zero_add, Nat.le_refl, er_a, er_b, er_k, er_n, er_s, er_v, ep_a, ep_b, ep_hk, ep_hn, ep_hs, ep_wk, ep_wn, ep_ws, Nat.lt_irrefl]⟩
      rw [List.take_length, h, List.take_length] at hi
      rw [k72_0x1, fd_leaf, decide_eq_true hi]
  · have h' : ¬ (l.length : Int) = m.length := by omega
    rw [if_pos h', decide_eq_false (fun e => h (by rw [e]))]
end Go.Proofs.YtbilmkcdhodenaaDoor

end
