/-
  Chapter 02 (span): trees, written by a program.
-/
import Derived.Test.YtedniogmjhhhmaaDoorSComp
set_option linter.all false
set_option linter.unusedSimpArgs false
set_option linter.unusedVariables false
section
namespace Go.Proofs.YtedniogmjhhhmaaDoor
open Go Go.Ev
set_option pp.deepTerms true
set_option pp.maxSteps 1000000
set_option pp.funBinderTypes true
set_option pp.coercions.types true
noncomputable abbrev p66 : Par := par E sh (ctOf []) 66 2 0
abbrev s66_0 (s : List UInt8) (i : Int) (i6 : Int) (i7 : Int) (i8 : Int) (i9 : Int) : Fr × Hp := ([(0, V.c (C.str s)), (1, V.c (C.int IntKind.i64 i)), (6, V.c (C.int IntKind.i64 i6)), (7, V.c (C.int IntKind.i64 i7)), (8, V.c (C.int IntKind.i64 i8)), (9, V.c (C.int IntKind.i64 i9))], [])
noncomputable abbrev b66_0 : Code := loopAt (codeOf p66.E p66.g) 0
abbrev x66_0x0 : Ex × Fr × Hp := (Ex.ret, [(4, V.c (C.int IntKind.i64 0))], [])
abbrev x66_0x1 (s : List UInt8) (i : Int) (i6 : Int) (i7 : Int) (i8 : Int) (i9 : Int) : Ex × Fr × Hp := (Ex.exit 1, [(0, V.c (C.str s)), (1, V.c (C.int IntKind.i64 i)), (6, V.c (C.int IntKind.i64 i6)), (7, V.c (C.int IntKind.i64 i7)), (8, V.c (C.int IntKind.i64 i8)), (9, V.c (C.int IntKind.i64 i9)), (55, V.c (C.bool false))], [])
theorem t66_0 (s : List UInt8) (i : Int) (i6 : Int) (i7 : Int) (i8 : Int) (i9 : Int) : p66.lts b66_0 (s66_0 s i i6 i7 i8 i9) = (Tr.br (decide (i9 < i6)) (Tr.br (decide ((↑s.length : Int) ≤ IntKind.i64.wrap (i + i9))) (Tr.leaf (R.x x66_0x0)) (Tr.chk (decide (0 ≤ IntKind.i64.wrap (i + i9))) (Tr.chk (decide ((IntKind.i64.wrap (i + i9)).toNat < s.length)) (Tr.chk true (Tr.br (IntKind.i64.wrap ((IntKind.i64.wrap (↑(s.getD (IntKind.i64.wrap (i + i9)).toNat 0).toNat : Int)).tdiv 64) != 2) (Tr.leaf (R.x x66_0x0)) (Tr.chk (decide (0 ≤ IntKind.i64.wrap (i + i9))) (Tr.chk (decide ((IntKind.i64.wrap (i + i9)).toNat < s.length)) (Tr.chk true (Tr.leaf (R.s (s66_0 s i i6 (IntKind.i64.wrap (IntKind.i64.wrap (64 * i7) + (IntKind.i64.wrap (↑(s.getD (IntKind.i64.wrap (i + i9)).toNat 0).toNat : Int)).tmod 64)) i8 (IntKind.i64.wrap (i9 + 1))))))))))))) (Tr.leaf (R.x (x66_0x1 s i i6 i7 i8 i9)))) := by kernel_rfl
theorem k66_0x0 : p66.fkx 0 x66_0x0 = (Tr.leaf (R.out [V.c (C.int IntKind.i64 0)] [])) := by kernel_rfl
theorem k66_0x1 (s : List UInt8) (i : Int) (i6 : Int) (i7 : Int) (i8 : Int) (i9 : Int) : p66.fkx 0 (x66_0x1 s i i6 i7 i8 i9) = (Tr.br (decide (i7 < i8)) (Tr.leaf (R.out [V.c (C.int IntKind.i64 0)] [])) (Tr.br (decide (55296 ≤ i7)) (Tr.br (decide (i7 < 57344)) (Tr.leaf (R.out [V.c (C.int IntKind.i64 0)] [])) (Tr.br (decide (1114111 < i7)) (Tr.leaf (R.out [V.c (C.int IntKind.i64 0)] [])) (Tr.leaf (R.out [V.c (C.int IntKind.i64 i6)] [])))) (Tr.br (decide (1114111 < i7)) (Tr.leaf (R.out [V.c (C.int IntKind.i64 0)] [])) (Tr.leaf (R.out [V.c (C.int IntKind.i64 i6)] []))))) := by kernel_rfl
theorem t66 (s : List UInt8) (i : Int) : p66.ft ([V.c (C.str s), V.i i]) ([]) = (Tr.br (decide (i < 0)) (Tr.leaf (R.out [V.c (C.int IntKind.i64 0)] [])) (Tr.br (decide ((↑s.length : Int) ≤ i)) (Tr.leaf (R.out [V.c (C.int IntKind.i64 0)] [])) (Tr.chk (decide (0 ≤ i)) (Tr.chk (decide (i.toNat < s.length)) (Tr.br (decide (IntKind.i64.wrap (↑(s.getD i.toNat 0).toNat : Int) < 128)) (Tr.leaf (R.out [V.c (C.int IntKind.i64 1)] [])) (Tr.br (decide (192 ≤ IntKind.i64.wrap (↑(s.getD i.toNat 0).toNat : Int))) (Tr.br (decide (IntKind.i64.wrap (↑(s.getD i.toNat 0).toNat : Int) < 224)) (Tr.ls 0 (s66_0 s i (2) (IntKind.i64.wrap (IntKind.i64.wrap (↑(s.getD i.toNat 0).toNat : Int) - 192)) (128) (1))) (Tr.br (decide (224 ≤ IntKind.i64.wrap (↑(s.getD i.toNat 0).toNat : Int))) (Tr.br (decide (IntKind.i64.wrap (↑(s.getD i.toNat 0).toNat : Int) < 240)) (Tr.ls 0 (s66_0 s i (3) (IntKind.i64.wrap (IntKind.i64.wrap (↑(s.getD i.toNat 0).toNat : Int) - 224)) (2048) (1))) (Tr.br (decide (240 ≤ IntKind.i64.wrap (↑(s.getD i.toNat 0).toNat : Int))) (Tr.br (decide (IntKind.i64.wrap (↑(s.getD i.toNat 0).toNat : Int) < 248)) (Tr.ls 0 (s66_0 s i (4) (IntKind.i64.wrap (IntKind.i64.wrap (↑(s.getD i.toNat 0).toNat : Int) - 240)) (65536) (1))) (Tr.leaf (R.out [V.c (C.int IntKind.i64 0)] []))) (Tr.leaf (R.out [V.c (C.int IntKind.i64 0)] [])))) (Tr.br (decide (240 ≤ IntKind.i64.wrap (↑(s.getD i.toNat 0).toNat : Int))) (Tr.br (decide (IntKind.i64.wrap (↑(s.getD i.toNat 0).toNat : Int) < 248)) (Tr.ls 0 (s66_0 s i (4) (IntKind.i64.wrap (IntKind.i64.wrap (↑(s.getD i.toNat 0).toNat : Int) - 240)) (65536) (1))) (Tr.leaf (R.out [V.c (C.int IntKind.i64 0)] []))) (Tr.leaf (R.out [V.c (C.int IntKind.i64 0)] []))))) (Tr.br (decide (224 ≤ IntKind.i64.wrap (↑(s.getD i.toNat 0).toNat : Int))) (Tr.br (decide (IntKind.i64.wrap (↑(s.getD i.toNat 0).toNat : Int) < 240)) (Tr.ls 0 (s66_0 s i (3) (IntKind.i64.wrap (IntKind.i64.wrap (↑(s.getD i.toNat 0).toNat : Int) - 224)) (2048) (1))) (Tr.br (decide (240 ≤ IntKind.i64.wrap (↑(s.getD i.toNat 0).toNat : Int))) (Tr.br (decide (IntKind.i64.wrap (↑(s.getD i.toNat 0).toNat : Int) < 248)) (Tr.ls 0 (s66_0 s i (4) (IntKind.i64.wrap (IntKind.i64.wrap (↑(s.getD i.toNat 0).toNat : Int) - 240)) (65536) (1))) (Tr.leaf (R.out [V.c (C.int IntKind.i64 0)] []))) (Tr.leaf (R.out [V.c (C.int IntKind.i64 0)] [])))) (Tr.br (decide (240 ≤ IntKind.i64.wrap (↑(s.getD i.toNat 0).toNat : Int))) (Tr.br (decide (IntKind.i64.wrap (↑(s.getD i.toNat 0).toNat : Int) < 248)) (Tr.ls 0 (s66_0 s i (4) (IntKind.i64.wrap (IntKind.i64.wrap (↑(s.getD i.toNat 0).toNat : Int) - 240)) (65536) (1))) (Tr.leaf (R.out [V.c (C.int IntKind.i64 0)] []))) (Tr.leaf (R.out [V.c (C.int IntKind.i64 0)] [])))))))))) := by kernel_rfl
noncomputable abbrev p28 : Par := par E sh (ctOf [(50, s50)]) 28 1 0
theorem t28 (k : Int) (n : Int) (s : List UInt8) : p28.ft ([V.agg [V.i k, V.i n, V.c (C.str s)]]) ([]) = (Tr.br (k == 1) (Tr.br (s == []) (Tr.leaf (R.out [V.c (C.int IntKind.i64 0)] [])) (Tr.leaf (R.out [V.c (C.int IntKind.i64 2)] []))) (Tr.br (k == 2) (Tr.br (n == 0) (Tr.br (decide ((↑s.length : Int) ≤ 40)) (Tr.chk (decide (s.length < 4294967296)) (Tr.br (decide (0 ≤ runesL s)) (Tr.leaf (R.out [V.c (C.int IntKind.i64 0)] [])) (Tr.leaf (R.out [V.c (C.int IntKind.i64 2)] [])))) (Tr.leaf (R.out [V.c (C.int IntKind.i64 2)] []))) (Tr.leaf (R.out [V.c (C.int IntKind.i64 2)] []))) (Tr.leaf (R.out [V.c (C.int IntKind.i64 2)] [])))) := by kernel_rfl
noncomputable abbrev p27 : Par := par E sh (ctOf []) 27 2 0
theorem t27 (a : Int) (b : Int) : p27.ft ([V.i a, V.i b]) ([]) = (Tr.br (decide (0 ≤ a)) (Tr.br (decide (a < b)) (Tr.leaf (R.out [V.c (C.bool (decide (b ≤ 1099511627776)))] [])) (Tr.leaf (R.out [V.c (C.bool false)] []))) (Tr.leaf (R.out [V.c (C.bool false)] []))) := by kernel_rfl
noncomputable abbrev p36 : Par := par E sh (ctOf []) 36 2 0
theorem t36 (a : Int) (b : Int) : p36.ft ([V.i a, V.i b]) ([]) = (Tr.br (decide (0 ≤ a)) (Tr.br (decide (a < b)) (Tr.leaf (R.out [V.c (C.bool (decide (b ≤ 1099511627776)))] [])) (Tr.leaf (R.out [V.c (C.bool false)] []))) (Tr.leaf (R.out [V.c (C.bool false)] []))) := by kernel_rfl
noncomputable abbrev p52 : Par := par E sh (ctOf []) 52 2 0
theorem t52 (a : Int) (b : Int) (k : Int) (n : Int) (t : Int) (s : List UInt8) : p52.ft ([V.agg [V.i a, V.i b, V.i k, V.i n, V.c (C.str s)], V.i t]) ([]) = (Tr.br (decide (b ≤ t)) (Tr.leaf (R.out [V.c (C.int IntKind.i64 (-1))] [])) (Tr.leaf (R.out [V.c (C.int IntKind.i64 1)] []))) := by kernel_rfl
def s52 : CSpec := fun a h => match a, h with
  | [.agg [.c (.int .i64 a), .c (.int .i64 b), .c (.int .i64 k), .c (.int .i64 n), .c (.str s)], .c (.int .i64 t)], [] => some ([], [V.i (if b ≤ t then -1 else 1)], [])
  | _, _ => none
noncomputable abbrev p51 : Par := par E sh (ctOf [(52, s52)]) 51 3 0
abbrev s51_0 (nl : Option Bool) (tt : Bool) (xs : List (List C)) (t : Int) (i8 : Int) (i9 : Int) (i10 : Int) : Fr × Hp := ([(0, V.c (C.sl 5 nl tt xs)), (1, V.c (C.int IntKind.i64 t)), (2, V.fn 52 []), (8, V.c (C.int IntKind.i64 i8)), (9, V.c (C.int IntKind.i64 i9)), (10, V.c (C.int IntKind.i64 i10))], [])
noncomputable abbrev b51_0 : Code := loopAt (codeOf p51.E p51.g) 0
abbrev x51_0x0 (nl : Option Bool) (tt : Bool) (xs : List (List C)) (t : Int) (i8 : Int) (i9 : Int) (i10 : Int) : Ex × Fr × Hp := (Ex.exit 0, [(0, V.c (C.sl 5 nl tt xs)), (1, V.c (C.int IntKind.i64 t)), (2, V.fn 52 []), (8, V.c (C.int IntKind.i64 i8)), (9, V.c (C.int IntKind.i64 i9)), (10, V.c (C.int IntKind.i64 i10)), (17, V.c (C.bool false))], [])
theorem t51_0 (nl : Option Bool) (tt : Bool) (xs : List (List C)) (t : Int) (i8 : Int) (i9 : Int) (i10 : Int) : p51.lts b51_0 (s51_0 nl tt xs t i8 i9 i10) = (Tr.br (decide (i9 < i10)) (Tr.chk (decide (0 ≤ IntKind.i64.wrap (IntKind.u64.wrap (IntKind.i64.wrap (i9 + i10)) / 2 ^ min (Int.toNat 1) IntKind.u64.bits))) (Tr.chk true (Tr.chk (decide ((IntKind.i64.wrap (IntKind.u64.wrap (IntKind.i64.wrap (i9 + i10)) / 2 ^ min (Int.toNat 1) IntKind.u64.bits)).toNat < xs.length)) (Tr.chk (shOk [Sk.int IntKind.i64, Sk.int IntKind.i64, Sk.int IntKind.i64, Sk.int IntKind.i64, Sk.str] (xs.getD (IntKind.i64.wrap (IntKind.u64.wrap (IntKind.i64.wrap (i9 + i10)) / 2 ^ min (Int.toNat 1) IntKind.u64.bits)).toNat [])) (Tr.br (decide ((if ((xs.getD (IntKind.i64.wrap (IntKind.u64.wrap (IntKind.i64.wrap (i9 + i10)) / 2 ^ min (Int.toNat 1) IntKind.u64.bits)).toNat []).tail.headD C.pnil).i ≤ t then -1 else 1) < 0)) (Tr.leaf (R.s (s51_0 nl tt xs t i8 (IntKind.i64.wrap (IntKind.i64.wrap (IntKind.u64.wrap (IntKind.i64.wrap (i9 + i10)) / 2 ^ min (Int.toNat 1) IntKind.u64.bits) + 1)) i10))) (Tr.leaf (R.s (s51_0 nl tt xs t i8 i9 (IntKind.i64.wrap (IntKind.u64.wrap (IntKind.i64.wrap (i9 + i10)) / 2 ^ min (Int.toNat 1) IntKind.u64.bits)))))))))) (Tr.leaf (R.x (x51_0x0 nl tt xs t i8 i9 i10)))) := by kernel_rfl
theorem k51_0x0 (nl : Option Bool) (tt : Bool) (xs : List (List C)) (t : Int) (i8 : Int) (i9 : Int) (i10 : Int) : p51.fkx 0 (x51_0x0 nl tt xs t i8 i9 i10) = (Tr.br (decide (i9 < i8)) (Tr.chk (decide (0 ≤ i9)) (Tr.chk true (Tr.chk (decide (i9.toNat < xs.length)) (Tr.chk (shOk [Sk.int IntKind.i64, Sk.int IntKind.i64, Sk.int IntKind.i64, Sk.int IntKind.i64, Sk.str] (xs.getD i9.toNat [])) (Tr.leaf (R.out [V.c (C.int IntKind.i64 i9), V.c (C.bool ((if ((xs.getD i9.toNat []).tail.headD C.pnil).i ≤ t then -1 else 1) == 0))] [])))))) (Tr.leaf (R.out [V.c (C.int IntKind.i64 i9), V.c (C.bool false)] []))) := by kernel_rfl
theorem t51 (nl : Option Bool) (tt : Bool) (xs : List (List C)) (t : Int) : p51.ft ([V.c (C.sl 5 nl tt xs), V.i t, V.fn 52 []]) ([]) = (Tr.ls 0 (s51_0 nl tt xs t ((↑xs.length : Int)) (0) ((↑xs.length : Int)))) := by kernel_rfl
end Go.Proofs.YtedniogmjhhhmaaDoor

end

/-
  Chapter 02 (span): the first functions.
-/
section
namespace Go.Proofs.YtedniogmjhhhmaaDoor
open Go Go.Ev

theorem f27 (a b : Int) : call E 27 [V.i a, V.i b] [] = some ([V.b (isSpan a b)], []) := by
  refine call_of (E := E) (sh := sh) (ct := ctOf []) (na := 2) (m := 0) ctOf_nil rfl rfl rfl rfl rfl rfl ?_
  rw [t27]
  simp only [ld_br, ld_chk', ld_leaf, fd_br, fd_chk', fd_leaf, decide_true, decide_eq_true_eq, if_true, Int.toNat_natCast, Int.natCast_nonneg, Int.ofNat_lt, Bool.false_eq_true, if_false, bne_iff_ne, beq_iff_eq, ne_eq, not_true_eq_false, not_false_eq_true, Bool.not_eq_true', decide_eq_false_iff_not, reduceCtorEq, isSpan]
  by_cases h1 : 0 ≤ a <;> by_cases h2 : a < b <;> simp [h1, h2]
theorem f36 (a b : Int) : call E 36 [V.i a, V.i b] [] = some ([V.b (isSpan a b)], []) := by
  refine call_of (E := E) (sh := sh) (ct := ctOf []) (na := 2) (m := 0) ctOf_nil rfl rfl rfl rfl rfl rfl ?_
  rw [t36]
  simp only [ld_br, ld_chk', ld_leaf, fd_br, fd_chk', fd_leaf, decide_true, decide_eq_true_eq, if_true, Int.toNat_natCast, Int.natCast_nonneg, Int.ofNat_lt, Bool.false_eq_true, if_false, bne_iff_ne, beq_iff_eq, ne_eq, not_true_eq_false, not_false_eq_true, Bool.not_eq_true', decide_eq_false_iff_not, reduceCtorEq, isSpan]
  by_cases h1 : 0 ≤ a <;> by_cases h2 : a < b <;> simp [h1, h2]
theorem f28 (v : Val) : call E 28 [VV v] [] = some ([V.i (checkV v)], []) := by
  obtain ⟨k, n, s⟩ := v
  refine call_of (E := E) (sh := sh) (ct := ctOf [(50, s50)]) (na := 1) (m := 0) (ctOf_cons s50_ok ctOf_nil) rfl rfl rfl rfl rfl rfl ?_
  rw [t28]
  simp only [ld_br, ld_chk', ld_leaf, fd_br, fd_chk', fd_leaf, decide_true, decide_eq_true_eq, if_true, Int.toNat_natCast, Int.natCast_nonneg, Int.ofNat_lt, Bool.false_eq_true, if_false, bne_iff_ne, beq_iff_eq, ne_eq, not_true_eq_false, not_false_eq_true, Bool.not_eq_true', decide_eq_false_iff_not, reduceCtorEq, checkV]
  by_cases h1 : k = 1
  · subst h1
    by_cases h2 : s = [] <;> simp [h2]
  · by_cases h3 : k = 2
    · subst h3
      by_cases h4 : n = 0
      · by_cases h5 : s.length ≤ 40
        · have h6 : s.length < 4294967296 := by omega
          have h5' : (s.length : Int) ≤ 40 := by omega
          by_cases h7 : 0 ≤ runesL s <;> simp [h4, h5, h5', h6, h7]
        · have h5' : ¬ (s.length : Int) ≤ 40 := by omega
          simp [h4, h5, h5']
      · simp [h4]
    · simp [h1, h3]
end Go.Proofs.YtedniogmjhhhmaaDoor

end

/-
  Chapter 02 (span): the search, in plain Lean.
-/
section
namespace Go.Proofs.YtedniogmjhhhmaaDoor
open Go Go.Ev

/-- The binary search's steps: between lo and hi, with so much fuel. -/
def bs (l : List Row) (t : Int) : Nat → Nat → Nat → Nat
  | 0, lo, _ => lo
  | f + 1, lo, hi => if lo < hi then (if (l.getD ((lo + hi) / 2) default).b ≤ t then bs l t f ((lo + hi) / 2 + 1) hi else bs l t f lo ((lo + hi) / 2)) else lo
def bsF (l : List Row) (t : Int) : Nat := bs l t l.length 0 l.length
theorem bs_le (l : List Row) (t : Int) : ∀ (f lo hi : Nat), lo ≤ hi → hi ≤ l.length → lo ≤ bs l t f lo hi ∧ bs l t f lo hi ≤ hi
  | 0, lo, hi, h, _ => ⟨Nat.le_refl _, h⟩
  | f + 1, lo, hi, h, h2 => by
    simp only [bs]
    split
    · split
      · have := bs_le l t f ((lo + hi) / 2 + 1) hi (by omega) h2; omega
      · have := bs_le l t f lo ((lo + hi) / 2) (by omega) (by omega); omega
    · omega
theorem bs_end (l : List Row) (t : Int) (f : Nat) {lo hi : Nat} (h : ¬ lo < hi) : bs l t f lo hi = lo := by
  cases f with
  | zero => rfl
  | succ f => simp only [bs, if_neg h]
theorem bs_fuel (l : List Row) (t : Int) : ∀ (f g lo hi : Nat), hi - lo ≤ f → hi - lo ≤ g → bs l t f lo hi = bs l t g lo hi
  | 0, g, lo, hi, h1, h2 => by rw [bs_end l t 0 (by omega), bs_end l t g (by omega)]
  | f + 1, 0, lo, hi, h1, h2 => by rw [bs_end l t 0 (by omega), bs_end l t (f + 1) (by omega)]
  | f + 1, g + 1, lo, hi, h1, h2 => by
    simp only [bs]
    split
    · split
      · exact bs_fuel l t f g _ _ (by omega) (by omega)
      · exact bs_fuel l t f g _ _ (by omega) (by omega)
    · rfl
/-- Where the ends rise, it finds the first row whose end is behind t. -/
theorem bs_find (l : List Row) (t : Int) (hs : ∀ i j, i ≤ j → j < l.length → (l.getD i default).b ≤ (l.getD j default).b) : ∀ (f lo hi : Nat), lo ≤ hi → hi ≤ l.length → hi - lo ≤ f → (∀ i, i < lo → (l.getD i default).b ≤ t) → (∀ i, hi ≤ i → i < l.length → t < (l.getD i default).b) →
    (∀ i, i < bs l t f lo hi → (l.getD i default).b ≤ t) ∧ (∀ i, bs l t f lo hi ≤ i → i < l.length → t < (l.getD i default).b)
  | 0, lo, hi, h, _, h3, h4, h5 => by
    obtain rfl : lo = hi := by omega
    exact ⟨h4, h5⟩
  | f + 1, lo, hi, h, h2, h3, h4, h5 => by
    simp only [bs]
    split
    · rename_i hlt
      split
      · rename_i hb
        refine bs_find l t hs f ((lo + hi) / 2 + 1) hi (by omega) h2 (by omega) (fun i hi' => ?_) h5
        exact Int.le_trans (hs i ((lo + hi) / 2) (by omega) (by omega)) hb
      · rename_i hb
        refine bs_find l t hs f lo ((lo + hi) / 2) (by omega) (by omega) (by omega) h4 (fun i h6 h7 => ?_)
        have := hs ((lo + hi) / 2) i h6 h7
        omega
    · obtain rfl : lo = hi := by omega
      exact ⟨h4, h5⟩
end Go.Proofs.YtedniogmjhhhmaaDoor

end
