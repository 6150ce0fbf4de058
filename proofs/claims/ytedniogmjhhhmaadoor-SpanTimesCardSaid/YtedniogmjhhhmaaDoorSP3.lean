/-
  Chapter 02 (span): at, Check.
-/
import Derived.Test.YtedniogmjhhhmaaDoorSP2
set_option linter.all false
set_option linter.unusedSimpArgs false
set_option linter.unusedVariables false
section
namespace Go.Proofs.YtedniogmjhhhmaaDoor
open Go Go.Ev

/-- What the program finds at a time. -/
def atR (l : List Row) (t : Int) : Val := if h : bsF l t < l.length then (if l[bsF l t].a ≤ t then l[bsF l t].v else Val.none) else Val.none
theorem f30 (l : List Row) (nl : Option Bool) (tt : Bool) (t : Int) (hl : l.length ≤ 4294967296) : call E 30 [.c (.sl 5 nl tt (rows l)), V.i t] [] = some ([VV (atR l t)], []) := by
  refine call_of (E := E) (sh := sh) (ct := ctOf [(51, s51)]) (na := 2) (m := 0) (ctOf_cons s51_ok ctOf_nil) rfl rfl rfl rfl rfl rfl ?_
  rw [t30]
  simp only [ld_br, ld_chk', ld_leaf, fd_br, fd_chk', fd_leaf, decide_true, decide_eq_true_eq, if_true, Int.toNat_natCast, Int.natCast_nonneg, Int.ofNat_lt, Bool.false_eq_true, if_false, bne_iff_ne, beq_iff_eq, ne_eq, not_true_eq_false, not_false_eq_true, Bool.not_eq_true', decide_eq_false_iff_not, reduceCtorEq, isRows_rows, rows_length, toRows_rows, hl, Int.ofNat_lt]
  unfold atR
  by_cases hr : bsF l t < l.length
  · simp only [hr, if_true, rows_getD hr, er_ok', er_a, dif_pos]
    by_cases hb : l[bsF l t].a ≤ t
    · simp only [hb, if_true]; rfl
    · simp only [hb, if_false]; rfl
  · simp only [hr, if_false, dif_neg, not_false_eq_true]; rfl
end Go.Proofs.YtedniogmjhhhmaaDoor

end

/-
  Chapter 02 (span): Check.
-/
section
namespace Go.Proofs.YtedniogmjhhhmaaDoor
open Go Go.Ev

theorem s28_ok : CSpecOk E 28 s28 := by
  intro a h cs vals h' he hc
  unfold s28 at he
  split at he <;> simp only [Option.some.injEq, Prod.mk.injEq, reduceCtorEq] at he
  rename_i k n s
  obtain ⟨rfl, rfl, rfl⟩ := he
  exact f28 ⟨k, n, s⟩
theorem s27_ok : CSpecOk E 27 s27 := by
  intro a h cs vals h' he hc
  unfold s27 at he
  split at he <;> simp only [Option.some.injEq, Prod.mk.injEq, reduceCtorEq] at he
  rename_i a b
  obtain ⟨rfl, rfl, rfl⟩ := he
  exact f27 a b
theorem er_v (r : Row) (d : C) : (⟨((er r).tail.tail.headD d).i, ((er r).tail.tail.tail.headD d).i, ((er r).tail.tail.tail.tail.headD d).st⟩ : Val) = r.v := rfl
theorem er_k (r : Row) (d : C) : ((er r).tail.tail.headD d).i = r.v.k := rfl
theorem er_n (r : Row) (d : C) : ((er r).tail.tail.tail.headD d).i = r.v.n := rfl
theorem er_s (r : Row) (d : C) : ((er r).tail.tail.tail.tail.headD d).st = r.v.s := rfl

def F10 (l : List Row) (nl : Option Bool) (tt : Bool) : List Row → Option Row → Ex × Fr × Hp
  | [], _ => x10_0x2 nl tt (rows l) l.length l.length
  | x :: r, p => if isSpan x.a x.b = false then x10_0x0 x.a x.b x.v.k x.v.n x.v.s else if checkV x.v = 0 then
      (match p with
       | none => F10 l nl tt r (some x)
       | some w => if x.a < w.b then x10_0x1 x.a x.b x.v.k x.v.n x.v.s w.a w.b w.v.k w.v.n w.v.s else if x.a = w.b ∧ x.v = w.v then x10_0x1 x.a x.b x.v.k x.v.n x.v.s w.a w.b w.v.k w.v.n w.v.s else F10 l nl tt r (some x))
    else x10_0x0 x.a x.b x.v.k x.v.n x.v.s
theorem F10_ok (l : List Row) (nl : Option Bool) (tt : Bool) : ∀ (r : List Row) (p : Option Row), p10.fd (p10.fkx 0 (F10 l nl tt r p)) = some (.out [V.i (cond (okFrom p r) 0 2)] [])
  | [], p => by rw [F10, k10_0x2]; rfl
  | x :: r, p => by
    have ih := F10_ok l nl tt r (some x)
    simp only [F10, okFrom]
    by_cases h1 : isSpan x.a x.b = false
    · rw [if_pos h1, k10_0x0, h1]; rfl
    · rw [if_neg h1]
      have h1' : isSpan x.a x.b = true := by simpa using h1
      by_cases h2 : checkV x.v = 0
      · rw [if_pos h2]
        cases p with
        | none => rw [ih]; simp [h1', h2]
        | some w =>
          by_cases h3 : x.a < w.b
          · simp only [if_pos h3]; rw [k10_0x1]; simp [h3]; rfl
          · simp only [if_neg h3]
            by_cases h4 : x.a = w.b ∧ x.v = w.v
            · rw [if_pos h4, k10_0x1]; simp [h4.1, h4.2]; rfl
            · rw [if_neg h4, ih]
              have : (decide (x.a = w.b) && decide (x.v = w.v)) = false := by simpa using h4
              simp [h1', h2, h3, this]
      · rw [if_neg h2, k10_0x0]; simp [h2]; rfl
end Go.Proofs.YtedniogmjhhhmaaDoor

end

/-
  Chapter 02 (span): Check's loop.
-/
section
namespace Go.Proofs.YtedniogmjhhhmaaDoor
open Go Go.Ev

theorem val_eqb (a b : Val) : (a.k == b.k && (a.n == b.n && (a.s == b.s && true))) = decide (a = b) := by
  obtain ⟨a1, a2, a3⟩ := a
  obtain ⟨b1, b2, b3⟩ := b
  rw [Bool.eq_iff_iff]
  simp

theorem f10 (l : List Row) (nl : Option Bool) (tt : Bool) : call E 10 [.c (.sl 5 nl tt (rows l))] [] = some ([V.i (cond (right l) 0 2)], []) := by
  have hct : (ctOf [(27, s27), (28, s28)]).ok E := ctOf_cons s27_ok (ctOf_cons s28_ok ctOf_nil)
  refine call_of (E := E) (sh := sh) (ct := ctOf [(27, s27), (28, s28)]) (na := 1) (m := 0) hct rfl rfl rfl rfl rfl rfl ?_
  rw [t10, rows_length]
  simp only [fd_br, decide_eq_true_eq]
  by_cases hl : (64 : Int) < l.length
  · rw [if_pos hl, fd_leaf]
    have : right l = false := by simp [right]; omega
    rw [this]; rfl
  · rw [if_neg hl]
    have hr : right l = okFrom none l := by simp [right]; omega
    rw [hr]
    have hloop := loop_list (p := p10) hct (b := b10_0) l (fun k (_ : Option Row) => s10_0 nl tt (rows l) (l.length : Int) (k : Int)) (fun k s => s = if k = 0 then none else l[k - 1]?) (F10 l nl tt)
      (fun k s x hx hk hi => by
        rw [t10_0]
        have hg : (rows l).getD k [] = er x := by rw [rows_getD hk]; rw [List.getElem?_eq_getElem hk] at hx; simp only [Option.some.injEq] at hx; rw [hx]
        simp only [ld_br, ld_chk', ld_leaf, fd_br, fd_chk', fd_leaf, decide_true, decide_eq_true_eq, if_true, Int.toNat_natCast, Int.natCast_nonneg, Int.ofNat_lt, Bool.false_eq_true, if_false, bne_iff_ne, beq_iff_eq, ne_eq, not_true_eq_false, not_false_eq_true, Bool.not_eq_true', decide_eq_false_iff_not, reduceCtorEq, Int.ofNat_lt, hk, rows_length, hg, er_ok', er_a, er_b, er_v, er_k, er_n, er_s]
        have hw1 : IntKind.wrap .i64 ((k : Int) + 1) = ((k + 1 : Nat) : Int) := by rw [wrap_same (by omega) (by omega)]; omega
        by_cases h1 : isSpan x.a x.b = false
        · right; simp only [F10, if_pos h1]; exact ⟨by simp, trivial⟩
        · by_cases h2 : checkV x.v = 0
          · cases k with
            | zero =>
              left
              subst hi
              refine ⟨some x, by simpa using hx.symm, ?_, ?_⟩
              · simp only [F10, if_neg h1, if_pos h2, if_true]
              · rw [if_neg h1, if_neg (by simpa using h2)]; simp only [Int.natCast_zero, if_true] at hw1 ⊢; rw [hw1]
            | succ k =>
              have hk' : k < l.length := by omega
              have hw2 : IntKind.wrap .i64 (((k + 1 : Nat) : Int) - 1) = (k : Int) := by rw [wrap_same (by omega) (by omega)]; omega
              have hne : ¬ (((k + 1 : Nat) : Int) = 0) := by omega
              have hs : s = some l[k] := by rw [hi]; simp [hk']
              subst hs
              simp only [if_neg h1, h2, not_true_eq_false, if_false, if_neg hne, hw2, Int.natCast_nonneg, if_true, Int.toNat_natCast, hk', rows_getD hk', er_ok', er_a, er_b, er_k, er_n, er_s, hw1, F10]
              rw [val_eqb]
              by_cases h3 : x.a < l[k].b
              · right; simp only [if_pos h3]; exact ⟨by simp, trivial⟩
              · by_cases h4 : x.a = l[k].b
                · by_cases h5 : x.v = l[k].v
                  · right; simp only [if_neg h3, if_pos h4, if_pos (And.intro h4 h5), decide_eq_true h5, if_true]; exact ⟨by simp, trivial⟩
                  · left
                    refine ⟨some x, by simpa using hx.symm, ?_, ?_⟩
                    · simp only [if_neg h3, h5, and_false, if_false]
                    · simp [h3, h5]
                · left
                  refine ⟨some x, by simpa using hx.symm, ?_, ?_⟩
                  · simp only [if_neg h3, h4, false_and, if_false]
                  · simp [h3, h4]
          · right; simp only [F10, if_neg h1, if_neg h2, if_pos h2, not_false_eq_true, if_true]; exact ⟨by simp, trivial⟩)
      (fun s hi => by
        rw [t10_0]
        simp only [ld_br, ld_chk', ld_leaf, fd_br, fd_chk', fd_leaf, decide_true, decide_eq_true_eq, if_true, Int.toNat_natCast, Int.natCast_nonneg, Int.ofNat_lt, Bool.false_eq_true, if_false, bne_iff_ne, beq_iff_eq, ne_eq, not_true_eq_false, not_false_eq_true, Bool.not_eq_true', decide_eq_false_iff_not, reduceCtorEq, F10]
        refine ⟨trivial, ?_⟩
        rw [if_neg (Nat.lt_irrefl _)]) none rfl
    refine fd_ls hct (by kernel_rfl) hloop ?_ rfl
    exact F10_ok l nl tt l none
end Go.Proofs.YtedniogmjhhhmaaDoor

end
