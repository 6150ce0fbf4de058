/-
  Chapter 02 (span): BinarySearchFunc.
-/
import Derived.Test.YtedniogmjhhhmaaDoorST1
set_option linter.all false
set_option linter.unusedSimpArgs false
set_option linter.unusedVariables false
section
namespace Go.Proofs.YtedniogmjhhhmaaDoor
open Go Go.Ev

@[simp] theorem er_ok' (r : Row) : shOk [Sk.int .i64, Sk.int .i64, Sk.int .i64, Sk.int .i64, Sk.str] (er r) = true := rfl
theorem er_b (r : Row) (d : C) : ((er r).tail.headD d).i = r.b := rfl
theorem er_a (r : Row) (d : C) : ((er r).headD d).i = r.a := rfl
theorem getD_at {l : List Row} {i : Nat} (h : i < l.length) : l.getD i default = l[i] := by simp [List.getD_eq_getElem?_getD, h]

theorem s52_ok : CSpecOk E 52 s52 := by
  intro a h cs vals h' he hc
  unfold s52 at he
  split at he <;> simp only [Option.some.injEq, Prod.mk.injEq, reduceCtorEq] at he
  rename_i a b k n s t
  obtain ⟨rfl, rfl, rfl⟩ := he
  refine call_of (E := E) (sh := sh) (ct := ctOf []) (na := 2) (m := 0) ctOf_nil rfl rfl rfl rfl rfl rfl ?_
  rw [t52]
  simp only [ld_br, ld_chk', ld_leaf, fd_br, fd_chk', fd_leaf, decide_true, decide_eq_true_eq, if_true, Int.toNat_natCast, Int.natCast_nonneg, Int.ofNat_lt, Bool.false_eq_true, if_false, bne_iff_ne, beq_iff_eq, ne_eq, not_true_eq_false, not_false_eq_true, Bool.not_eq_true', decide_eq_false_iff_not, reduceCtorEq]
  by_cases h1 : b ≤ t <;> simp [h1]

theorem half_wrap {a b : Nat} (h : a + b ≤ 8589934592) : IntKind.wrap .i64 (IntKind.wrap .u64 (IntKind.wrap .i64 ((a : Int) + b)) / 2 ^ min (Int.toNat 1) (IntKind.bits .u64)) = (((a + b) / 2 : Nat) : Int) := by
  have e : (2 : Int) ^ min (Int.toNat 1) (IntKind.bits .u64) = 2 := rfl
  have e1 : IntKind.wrap .i64 ((a : Int) + b) = (a : Int) + b := wrap_same (by omega) (by omega)
  have e2 : IntKind.wrap .u64 ((a : Int) + b) = (a : Int) + b := by
    simp only [IntKind.wrap, IntKind.bits, IntKind.signed]
    simp; omega
  rw [e, e1, e2, wrap_same (by omega) (by omega)]
  omega

theorem f51 (l : List Row) (nl : Option Bool) (tt : Bool) (t : Int) (hl : l.length ≤ 4294967296) : call E 51 [.c (.sl 5 nl tt (rows l)), V.i t, .fn 52 []] [] = some ([V.i (bsF l t), V.b false], []) := by
  have hct : (ctOf [(52, s52)]).ok E := ctOf_cons s52_ok ctOf_nil
  refine call_of (E := E) (sh := sh) (ct := ctOf [(52, s52)]) (na := 3) (m := 0) hct rfl rfl rfl rfl rfl rfl ?_
  rw [t51, rows_length]
  have hloop := loops_of (p := p51) hct (b := b51_0) (ι := Nat × Nat) (fun i => s51_0 nl tt (rows l) t (l.length : Int) (i.1 : Int) (i.2 : Int)) (fun i => i.1 ≤ i.2 ∧ i.2 ≤ l.length) (fun i => i.2 - i.1)
    (fun i => x51_0x0 nl tt (rows l) t (l.length : Int) (bs l t (i.2 - i.1) i.1 i.2 : Int) (bs l t (i.2 - i.1) i.1 i.2 : Int)) (fun ⟨lo, hi⟩ ⟨h1, h2⟩ => by
      simp only at h1 h2 ⊢
      rw [t51_0]
      by_cases hlt : lo < hi
      · have hm : (lo + hi) / 2 < l.length := by omega
        left
        rw [half_wrap (by omega)]
        simp only [ld_br, ld_chk', ld_leaf, fd_br, fd_chk', fd_leaf, decide_true, decide_eq_true_eq, if_true, Int.toNat_natCast, Int.natCast_nonneg, Int.ofNat_lt, Bool.false_eq_true, if_false, bne_iff_ne, beq_iff_eq, ne_eq, not_true_eq_false, not_false_eq_true, Bool.not_eq_true', decide_eq_false_iff_not, reduceCtorEq, rows_length, rows_getD hm, Int.ofNat_lt, hlt, hm, er_ok', er_b]
        have hf : hi - lo = (hi - lo - 1) + 1 := by omega
        by_cases hb : l[(lo + hi) / 2].b ≤ t
        · refine ⟨((lo + hi) / 2 + 1, hi), ⟨by dsimp only; omega, h2⟩, by dsimp only; omega, ?_, ?_⟩
          · have : bs l t (hi - lo) lo hi = bs l t (hi - ((lo + hi) / 2 + 1)) ((lo + hi) / 2 + 1) hi := by
              rw [hf]
              simp only [bs, if_pos hlt, getD_at hm, if_pos hb]
              exact bs_fuel l t _ _ _ _ (by omega) (by omega)
            rw [this]
          · have e3 : IntKind.wrap .i64 ((((lo + hi) / 2 : Nat) : Int) + 1) = (((lo + hi) / 2 + 1 : Nat) : Int) := by
              rw [wrap_same (by omega) (by omega)]; omega
            rw [e3]
            simp [hb]
        · refine ⟨(lo, (lo + hi) / 2), ⟨by dsimp only; omega, by dsimp only; omega⟩, by dsimp only; omega, ?_, ?_⟩
          · have : bs l t (hi - lo) lo hi = bs l t ((lo + hi) / 2 - lo) lo ((lo + hi) / 2) := by
              rw [hf]
              simp only [bs, if_pos hlt, getD_at hm, if_neg hb]
              exact bs_fuel l t _ _ _ _ (by omega) (by omega)
            rw [this]
          · simp [hb]
      · obtain rfl : lo = hi := by omega
        right
        simp only [ld_br, ld_chk', ld_leaf, fd_br, fd_chk', fd_leaf, decide_true, decide_eq_true_eq, if_true, Int.toNat_natCast, Int.natCast_nonneg, Int.ofNat_lt, Bool.false_eq_true, if_false, bne_iff_ne, beq_iff_eq, ne_eq, not_true_eq_false, not_false_eq_true, Bool.not_eq_true', decide_eq_false_iff_not, reduceCtorEq]
        refine ⟨by simp, ?_⟩
        rw [if_neg (by omega), bs_end l t _ (by omega)]) (0, l.length) ⟨Nat.zero_le _, Nat.le_refl _⟩
  refine fd_ls hct (by kernel_rfl) hloop ?_ rfl
  show p51.fd (p51.fkx 0 (x51_0x0 nl tt (rows l) t (l.length : Int) (bsF l t : Int) (bsF l t : Int))) = _
  rw [k51_0x0]
  simp only [ld_br, ld_chk', ld_leaf, fd_br, fd_chk', fd_leaf, decide_true, decide_eq_true_eq, if_true, Int.toNat_natCast, Int.natCast_nonneg, Int.ofNat_lt, Bool.false_eq_true, if_false, bne_iff_ne, beq_iff_eq, ne_eq, not_true_eq_false, not_false_eq_true, Bool.not_eq_true', decide_eq_false_iff_not, reduceCtorEq, rows_length, Int.ofNat_lt]
  by_cases hr : bsF l t < l.length
  · simp only [hr, if_true, rows_getD hr, er_ok', er_b]
    by_cases hb : l[bsF l t].b ≤ t <;> simp [hb]
  · simp only [hr, if_false]
def s51 : CSpec := fun a h => match a, h with
  | [.c (.sl 5 nl tt xs), .c (.int .i64 t), .fn 52 []], [] => some ([isRows xs, decide (xs.length ≤ 4294967296)], [V.i (bsF (toRows xs) t), V.b false], [])
  | _, _ => none
theorem toRows_length (xs : List (List C)) : (toRows xs).length = xs.length := by simp [toRows]
theorem s51_ok : CSpecOk E 51 s51 := by
  intro a h cs vals h' he hc
  unfold s51 at he
  split at he <;> simp only [Option.some.injEq, Prod.mk.injEq, reduceCtorEq] at he
  rename_i nl tt xs t
  obtain ⟨rfl, rfl, rfl⟩ := he
  simp only [allT, Bool.and_eq_true, decide_eq_true_eq, and_true] at hc
  have := f51 (toRows xs) nl tt t (by rw [toRows_length]; exact hc.2)
  rwa [← rows_of hc.1] at this
end Go.Proofs.YtedniogmjhhhmaaDoor

end

/-
  Chapter 02 (span): trees, written by a program.
-/
section
namespace Go.Proofs.YtedniogmjhhhmaaDoor
open Go Go.Ev
set_option pp.deepTerms true
set_option pp.maxSteps 1000000
set_option pp.funBinderTypes true
set_option pp.coercions.types true
noncomputable abbrev p30 : Par := par E sh (ctOf [(51, s51)]) 30 2 0
theorem t30 (nl : Option Bool) (tt : Bool) (xs : List (List C)) (t : Int) : p30.ft ([V.c (C.sl 5 nl tt xs), V.i t]) ([]) = (Tr.chk (isRows xs) (Tr.chk (decide (xs.length ≤ 4294967296)) (Tr.br (decide ((↑(bsF (toRows xs) t) : Int) < (↑xs.length : Int))) (Tr.chk true (Tr.chk true (Tr.chk (decide ((↑(bsF (toRows xs) t) : Int).toNat < xs.length)) (Tr.chk (shOk [Sk.int IntKind.i64, Sk.int IntKind.i64, Sk.int IntKind.i64, Sk.int IntKind.i64, Sk.str] (xs.getD (↑(bsF (toRows xs) t) : Int).toNat [])) (Tr.br (decide (((xs.getD (↑(bsF (toRows xs) t) : Int).toNat []).headD C.pnil).i ≤ t)) (Tr.chk true (Tr.chk true (Tr.chk (decide ((↑(bsF (toRows xs) t) : Int).toNat < xs.length)) (Tr.chk (shOk [Sk.int IntKind.i64, Sk.int IntKind.i64, Sk.int IntKind.i64, Sk.int IntKind.i64, Sk.str] (xs.getD (↑(bsF (toRows xs) t) : Int).toNat [])) (Tr.leaf (R.out [V.agg [V.c (C.int IntKind.i64 ((xs.getD (↑(bsF (toRows xs) t) : Int).toNat []).tail.tail.headD C.pnil).i), V.c (C.int IntKind.i64 ((xs.getD (↑(bsF (toRows xs) t) : Int).toNat []).tail.tail.tail.headD C.pnil).i), V.c (C.str ((xs.getD (↑(bsF (toRows xs) t) : Int).toNat []).tail.tail.tail.tail.headD C.pnil).st)]] [])))))) (Tr.leaf (R.out [V.agg [V.c (C.int IntKind.i64 0), V.c (C.int IntKind.i64 0), V.c (C.str [])]] []))))))) (Tr.leaf (R.out [V.agg [V.c (C.int IntKind.i64 0), V.c (C.int IntKind.i64 0), V.c (C.str [])]] []))))) := by kernel_rfl
def s28 : CSpec := fun a h => match a, h with
  | [.agg [.c (.int .i64 k), .c (.int .i64 n), .c (.str s)]], [] => some ([], [V.i (checkV ⟨k, n, s⟩)], [])
  | _, _ => none
def s27 : CSpec := fun a h => match a, h with
  | [.c (.int .i64 a), .c (.int .i64 b)], [] => some ([], [V.b (isSpan a b)], [])
  | _, _ => none
noncomputable abbrev p10 : Par := par E sh (ctOf [(27, s27), (28, s28)]) 10 1 0
abbrev s10_0 (nl : Option Bool) (tt : Bool) (xs : List (List C)) (i10 : Int) (i11 : Int) : Fr × Hp := ([(0, V.c (C.sl 5 nl tt xs)), (9, V.c (C.sl 5 nl tt xs)), (10, V.c (C.int IntKind.i64 i10)), (11, V.c (C.int IntKind.i64 i11))], [])
noncomputable abbrev b10_0 : Code := loopAt (codeOf p10.E p10.g) 0
abbrev x10_0x0 (ih0 : Int) (ih0_1 : Int) (ih0_2 : Int) (ih0_3 : Int) (sh0 : List UInt8) : Ex × Fr × Hp := (Ex.ret, [(2, V.c (C.int IntKind.i64 2))], [O.box [V.c (C.int IntKind.i64 ih0), V.c (C.int IntKind.i64 ih0_1), V.c (C.int IntKind.i64 ih0_2), V.c (C.int IntKind.i64 ih0_3), V.c (C.str sh0)]])
abbrev x10_0x1 (ih0 : Int) (ih0_1 : Int) (ih0_2 : Int) (ih0_3 : Int) (sh0 : List UInt8) (ih1 : Int) (ih1_1 : Int) (ih1_2 : Int) (ih1_3 : Int) (sh1 : List UInt8) : Ex × Fr × Hp := (Ex.ret, [(2, V.c (C.int IntKind.i64 2))], [O.box [V.c (C.int IntKind.i64 ih0), V.c (C.int IntKind.i64 ih0_1), V.c (C.int IntKind.i64 ih0_2), V.c (C.int IntKind.i64 ih0_3), V.c (C.str sh0)], O.box [V.c (C.int IntKind.i64 ih1), V.c (C.int IntKind.i64 ih1_1), V.c (C.int IntKind.i64 ih1_2), V.c (C.int IntKind.i64 ih1_3), V.c (C.str sh1)]])
abbrev x10_0x2 (nl : Option Bool) (tt : Bool) (xs : List (List C)) (i10 : Int) (i11 : Int) : Ex × Fr × Hp := (Ex.exit 0, [(0, V.c (C.sl 5 nl tt xs)), (9, V.c (C.sl 5 nl tt xs)), (10, V.c (C.int IntKind.i64 i10)), (11, V.c (C.int IntKind.i64 i11)), (12, V.c (C.bool false))], [])
theorem t10_0 (nl : Option Bool) (tt : Bool) (xs : List (List C)) (i10 : Int) (i11 : Int) : p10.lts b10_0 (s10_0 nl tt xs i10 i11) = (Tr.br (decide (i11 < i10)) (Tr.chk (decide (0 ≤ i11)) (Tr.chk true (Tr.chk (decide (i11.toNat < xs.length)) (Tr.chk (shOk [Sk.int IntKind.i64, Sk.int IntKind.i64, Sk.int IntKind.i64, Sk.int IntKind.i64, Sk.str] (xs.getD i11.toNat [])) (Tr.br (!isSpan ((xs.getD i11.toNat []).headD C.pnil).i ((xs.getD i11.toNat []).tail.headD C.pnil).i) (Tr.leaf (R.x (x10_0x0 (((xs.getD i11.toNat []).headD C.pnil).i) (((xs.getD i11.toNat []).tail.headD C.pnil).i) (((xs.getD i11.toNat []).tail.tail.headD C.pnil).i) (((xs.getD i11.toNat []).tail.tail.tail.headD C.pnil).i) (((xs.getD i11.toNat []).tail.tail.tail.tail.headD C.pnil).st)))) (Tr.br (checkV { k := ((xs.getD i11.toNat []).tail.tail.headD C.pnil).i, n := ((xs.getD i11.toNat []).tail.tail.tail.headD C.pnil).i, s := ((xs.getD i11.toNat []).tail.tail.tail.tail.headD C.pnil).st } != 0) (Tr.leaf (R.x (x10_0x0 (((xs.getD i11.toNat []).headD C.pnil).i) (((xs.getD i11.toNat []).tail.headD C.pnil).i) (((xs.getD i11.toNat []).tail.tail.headD C.pnil).i) (((xs.getD i11.toNat []).tail.tail.tail.headD C.pnil).i) (((xs.getD i11.toNat []).tail.tail.tail.tail.headD C.pnil).st)))) (Tr.br (i11 == 0) (Tr.leaf (R.s (s10_0 nl tt xs i10 (IntKind.i64.wrap (i11 + 1))))) (Tr.chk (decide (0 ≤ IntKind.i64.wrap (i11 - 1))) (Tr.chk true (Tr.chk (decide ((IntKind.i64.wrap (i11 - 1)).toNat < xs.length)) (Tr.chk (shOk [Sk.int IntKind.i64, Sk.int IntKind.i64, Sk.int IntKind.i64, Sk.int IntKind.i64, Sk.str] (xs.getD (IntKind.i64.wrap (i11 - 1)).toNat [])) (Tr.br (decide (((xs.getD i11.toNat []).headD C.pnil).i < ((xs.getD (IntKind.i64.wrap (i11 - 1)).toNat []).tail.headD C.pnil).i)) (Tr.leaf (R.x (x10_0x1 (((xs.getD i11.toNat []).headD C.pnil).i) (((xs.getD i11.toNat []).tail.headD C.pnil).i) (((xs.getD i11.toNat []).tail.tail.headD C.pnil).i) (((xs.getD i11.toNat []).tail.tail.tail.headD C.pnil).i) (((xs.getD i11.toNat []).tail.tail.tail.tail.headD C.pnil).st) (((xs.getD (IntKind.i64.wrap (i11 - 1)).toNat []).headD C.pnil).i) (((xs.getD (IntKind.i64.wrap (i11 - 1)).toNat []).tail.headD C.pnil).i) (((xs.getD (IntKind.i64.wrap (i11 - 1)).toNat []).tail.tail.headD C.pnil).i) (((xs.getD (IntKind.i64.wrap (i11 - 1)).toNat []).tail.tail.tail.headD C.pnil).i) (((xs.getD (IntKind.i64.wrap (i11 - 1)).toNat []).tail.tail.tail.tail.headD C.pnil).st)))) (Tr.br (((xs.getD i11.toNat []).headD C.pnil).i == ((xs.getD (IntKind.i64.wrap (i11 - 1)).toNat []).tail.headD C.pnil).i) (Tr.br (((xs.getD i11.toNat []).tail.tail.headD C.pnil).i == ((xs.getD (IntKind.i64.wrap (i11 - 1)).toNat []).tail.tail.headD C.pnil).i && (((xs.getD i11.toNat []).tail.tail.tail.headD C.pnil).i == ((xs.getD (IntKind.i64.wrap (i11 - 1)).toNat []).tail.tail.tail.headD C.pnil).i && (((xs.getD i11.toNat []).tail.tail.tail.tail.headD C.pnil).st == ((xs.getD (IntKind.i64.wrap (i11 - 1)).toNat []).tail.tail.tail.tail.headD C.pnil).st && true))) (Tr.leaf (R.x (x10_0x1 (((xs.getD i11.toNat []).headD C.pnil).i) (((xs.getD i11.toNat []).tail.headD C.pnil).i) (((xs.getD i11.toNat []).tail.tail.headD C.pnil).i) (((xs.getD i11.toNat []).tail.tail.tail.headD C.pnil).i) (((xs.getD i11.toNat []).tail.tail.tail.tail.headD C.pnil).st) (((xs.getD (IntKind.i64.wrap (i11 - 1)).toNat []).headD C.pnil).i) (((xs.getD (IntKind.i64.wrap (i11 - 1)).toNat []).tail.headD C.pnil).i) (((xs.getD (IntKind.i64.wrap (i11 - 1)).toNat []).tail.tail.headD C.pnil).i) (((xs.getD (IntKind.i64.wrap (i11 - 1)).toNat []).tail.tail.tail.headD C.pnil).i) (((xs.getD (IntKind.i64.wrap (i11 - 1)).toNat []).tail.tail.tail.tail.headD C.pnil).st)))) (Tr.leaf (R.s (s10_0 nl tt xs i10 (IntKind.i64.wrap (i11 + 1)))))) (Tr.leaf (R.s (s10_0 nl tt xs i10 (IntKind.i64.wrap (i11 + 1)))))))))))))))))) (Tr.leaf (R.x (x10_0x2 nl tt xs i10 i11)))) := by kernel_rfl
theorem k10_0x0 (ih0 : Int) (ih0_1 : Int) (ih0_2 : Int) (ih0_3 : Int) (sh0 : List UInt8) : p10.fkx 0 (x10_0x0 ih0 ih0_1 ih0_2 ih0_3 sh0) = (Tr.leaf (R.out [V.c (C.int IntKind.i64 2)] [])) := by kernel_rfl
theorem k10_0x1 (ih0 : Int) (ih0_1 : Int) (ih0_2 : Int) (ih0_3 : Int) (sh0 : List UInt8) (ih1 : Int) (ih1_1 : Int) (ih1_2 : Int) (ih1_3 : Int) (sh1 : List UInt8) : p10.fkx 0 (x10_0x1 ih0 ih0_1 ih0_2 ih0_3 sh0 ih1 ih1_1 ih1_2 ih1_3 sh1) = (Tr.leaf (R.out [V.c (C.int IntKind.i64 2)] [])) := by kernel_rfl
theorem k10_0x2 (nl : Option Bool) (tt : Bool) (xs : List (List C)) (i10 : Int) (i11 : Int) : p10.fkx 0 (x10_0x2 nl tt xs i10 i11) = (Tr.leaf (R.out [V.c (C.int IntKind.i64 0)] [])) := by kernel_rfl
theorem t10 (nl : Option Bool) (tt : Bool) (xs : List (List C)) : p10.ft ([V.c (C.sl 5 nl tt xs)]) ([]) = (Tr.br (decide (64 < (↑xs.length : Int))) (Tr.leaf (R.out [V.c (C.int IntKind.i64 2)] [])) (Tr.ls 0 (s10_0 nl tt xs ((↑xs.length : Int)) (0)))) := by kernel_rfl
end Go.Proofs.YtedniogmjhhhmaaDoor

end
