/-
  Chapter 02 (span): the reference's Runes, Right, over, Same; Radix trees, plain: how deep; where a kid stands; Prefixes of strings; Radix trees: trees, written by a program: place, Get's parts, below; Radix trees: place, Clone, below; Radix trees: trees, written by a program: Check, Get; the reference's Right, Entries, Get; what is small; Radix trees: Check, Get; the reference's Right; Radix trees: the reference's entries and Get; how many nodes are left; Radix trees: putting: trees, written by a program: copied, shared, split, place over an own row; Radix trees, plain: what putting rows under.
-/
import Derived.Test.YtgaabjmbnomimaaDoorARunD
set_option linter.all false
namespace Go.Proofs.YtgaabjmbnomimaaDoor
open Go Go.Ev
theorem width_bounds (s : Bys) (i : Nat) (h : i < s.length) : 0 ≤ widthR s i ∧ widthR s i ≤ 4 := by
  have h4 : ∀ n c least, finW n c least ≤ n := fun n c least => by
    unfold finW
    split
    · omega
    · split
      · omega
      · split <;> omega
  rw [width_n s i h]
  refine ⟨by omega, ?_⟩
  have : ∀ v0 v1 v2 v3 p1 p2 p9003, wN v0 v1 v2 v3 p1 p2 p9003 ≤ 4 := by
    intro v0 v1 v2 v3 p1 p2 p9003
    have a2 := h4 2 (64 * (v0 - 192) + v1 % 64) 128
    have a3 := h4 3 (64 * (64 * (v0 - 224) + v1 % 64) + v2 % 64) 2048
    have a4 := h4 4 (64 * (64 * (64 * (v0 - 240) + v1 % 64) + v2 % 64) + v3 % 64) 65536
    unfold wN
    repeat' split
    all_goals omega
  have := this (s.getD i 0).toNat (s.getD (i + 1) 0).toNat (s.getD (i + 2) 0).toNat (s.getD (i + 3) 0).toNat (decide (i + 1 < s.length)) (decide (i + 2 < s.length)) (decide (i + 3 < s.length))
  omega
theorem f163 (s : Bys) (hs : s.length < 1000000) : call E 163 [.c (.str s)] [] = some ([V.i (runesR s (s.length + 1) 0 0)], []) := by
  have hct : (ctOf [(177, s177)]).ok E := ctOf_cons s177_ok ctOf_nil
  refine call_of (E := E) (sh := sh) (ct := ctOf [(177, s177)]) (na := 1) (m := 0) hct rfl rfl rfl rfl rfl rfl ?_
  rw [t163]
  refine fd_post hct (by kernel_rfl) rfl (loops_post hct (b := b163_0) (ι := Nat × Nat × Nat) (fun i => s163_0 s (i.1 : Int) (i.2.1 : Int)) (fun i => runesR s i.2.2 i.2.1 i.1 = runesR s (s.length + 1) 0 0 ∧ i.1 ≤ i.2.1 ∧ s.length + 1 ≤ i.2.1 + i.2.2 ∧ i.2.1 ≤ s.length + 4 ∧ 0 < i.2.2) (fun i => s.length + 5 - i.2.1) _ ?_ (0, 0, s.length + 1) ⟨rfl, by simp, by simp, by simp, by simp⟩)
  rintro ⟨n, pos, f⟩ ⟨h1, h2, h3, h4, h5⟩
  dsimp only at *
  rw [t163_0]
  obtain ⟨f, rfl⟩ : ∃ g, f = g + 1 := ⟨f - 1, by omega⟩
  rw [runesR] at h1
  by_cases hp : pos < s.length
  · have hp' : (pos : Int) < s.length := by omega
    have e0 : (pos : Int) < 1000000 := by omega
    simp only [ld_br, ld_chk', ld_leaf, fd_br, fd_chk', fd_leaf, decide_true, decide_eq_true_eq, if_true, Int.toNat_natCast, Int.natCast_nonneg, Int.ofNat_lt, Int.ofNat_le, Bool.false_eq_true, if_false, bne_iff_ne, beq_iff_eq, ne_eq, not_true_eq_false, not_false_eq_true, Bool.not_eq_true', decide_eq_false_iff_not, reduceCtorEq, rows_length, pcs_length, er_ok, er_ok', ep_ok, ep_ok', dr_er, dp_ep, isRows_rows, isPcs_pcs, toRows_rows, toPcs_pcs, rows_take, rows_drop, pcs_take, pcs_drop, rows_append, pcs_append, ints_length, isInts_ints, toInts_ints, ei_i, ei_ok, mk_headD, ints_take, ints_drop, ints_append, ints_snoc, ints_snoc', List.take_length, Nat.zero_add, Nat.le_refl, er_a, er_b, er_k, er_n, er_s, er_v, ep_a, ep_b, ep_hk, ep_hn, ep_hs, ep_wk, ep_wn, ep_ws, hs, e0]
    obtain ⟨b1, b2⟩ := width_bounds s pos hp
    rw [if_pos hp'] at h1
    rw [if_pos hp]
    by_cases hw : widthR s pos = 0
    · rw [if_pos hw] at h1
      right
      refine ⟨x163_0x0, by simp, ?_, by rw [if_pos hw]⟩
      rw [k163_0x0, fd_leaf, ← h1]
    · rw [if_neg hw] at h1
      left
      have e1 : (pos : Int) + widthR s pos = ((pos + (widthR s pos).toNat : Nat) : Int) := by omega
      refine ⟨(n + 1, pos + (widthR s pos).toNat, f), ⟨?_, ?_, ?_, ?_, ?_⟩, ?_, ?_⟩
      · rw [← h1, e1]; rfl
      all_goals dsimp only
      · omega
      · omega
      · omega
      · omega
      · omega
      · rw [if_neg hw, wrap_succ (by omega), e1, wrap_same (by omega) (by omega)]
  · have hp' : ¬ (pos : Int) < s.length := by omega
    rw [if_neg hp'] at h1
    simp only [ld_br, ld_chk', ld_leaf, fd_br, fd_chk', fd_leaf, decide_true, decide_eq_true_eq, if_true, Int.toNat_natCast, Int.natCast_nonneg, Int.ofNat_lt, Int.ofNat_le, Bool.false_eq_true, if_false, bne_iff_ne, beq_iff_eq, ne_eq, not_true_eq_false, not_false_eq_true, Bool.not_eq_true', decide_eq_false_iff_not, reduceCtorEq, rows_length, pcs_length, er_ok, er_ok', ep_ok, ep_ok', dr_er, dp_ep, isRows_rows, isPcs_pcs, toRows_rows, toPcs_pcs, rows_take, rows_drop, pcs_take, pcs_drop, rows_append, pcs_append, ints_length, isInts_ints, toInts_ints, ei_i, ei_ok, mk_headD, ints_take, ints_drop, ints_append, ints_snoc, ints_snoc', List.take_length, Nat.zero_add, Nat.le_refl, er_a, er_b, er_k, er_n, er_s, er_v, ep_a, ep_b, ep_hk, ep_hn, ep_hs, ep_wk, ep_wn, ep_ws]
    right
    refine ⟨x163_0x1 s n pos, by simp, ?_, by rw [if_neg hp]⟩
    rw [k163_0x1, fd_leaf, ← h1]
theorem s163_ok : CSpecOk E 163 s163 := by
  intro a h cs vals h' he hc
  unfold s163 at he
  split at he <;> simp only [Option.some.injEq, Prod.mk.injEq, reduceCtorEq] at he
  obtain ⟨rfl, rfl, rfl⟩ := he
  simp only [allT, Bool.and_true, decide_eq_true_eq] at hc
  exact f163 _ hc
theorem f131 (v : Val) : call E 131 [VV v] [] = some ([V.b (valR v)], []) := by
  obtain ⟨k, n, s⟩ := v
  refine call_of (E := E) (sh := sh) (ct := ctOf [(163, s163)]) (na := 1) (m := 0) (ctOf_cons s163_ok ctOf_nil) rfl rfl rfl rfl rfl rfl ?_
  rw [t131]
  simp only [ld_br, ld_chk', ld_leaf, fd_br, fd_chk', fd_leaf, decide_true, decide_eq_true_eq, if_true, Int.toNat_natCast, Int.natCast_nonneg, Int.ofNat_lt, Int.ofNat_le, Bool.false_eq_true, if_false, bne_iff_ne, beq_iff_eq, ne_eq, not_true_eq_false, not_false_eq_true, Bool.not_eq_true', decide_eq_false_iff_not, reduceCtorEq, rows_length, pcs_length, er_ok, er_ok', ep_ok, ep_ok', dr_er, dp_ep, isRows_rows, isPcs_pcs, toRows_rows, toPcs_pcs, rows_take, rows_drop, pcs_take, pcs_drop, rows_append, pcs_append, ints_length, isInts_ints, toInts_ints, ei_i, ei_ok, mk_headD, ints_take, ints_drop, ints_append, ints_snoc, ints_snoc', List.take_length, Nat.zero_add, Nat.le_refl, er_a, er_b, er_k, er_n, er_s, er_v, ep_a, ep_b, ep_hk, ep_hn, ep_hs, ep_wk, ep_wn, ep_ws, valR]
  have hle : ((s.length : Int) ≤ 40) = (s.length ≤ 40) := by simp; omega
  simp only [hle]
  by_cases h1 : k = 1
  · subst h1
    by_cases h2 : s = [] <;> simp [h2]
  · by_cases h3 : k = 2
    · subst h3
      by_cases h4 : n = 0
      · by_cases h5 : s.length ≤ 40
        · have h6 : s.length < 1000000 := by omega
          simp [h4, h5, h6]
        · simp [h4, h5]
      · simp [h4]
    · simp [h1, h3]
theorem s131_ok : CSpecOk E 131 s131 := by
  intro a h cs vals h' he hc
  unfold s131 at he
  split at he <;> simp only [Option.some.injEq, Prod.mk.injEq, reduceCtorEq] at he
  rename_i k n s
  obtain ⟨rfl, rfl, rfl⟩ := he
  exact f131 ⟨k, n, s⟩
theorem s130_ok : CSpecOk E 130 s130 := by
  intro a h cs vals h' he hc
  unfold s130 s115 at he
  split at he <;> simp only [Option.some.injEq, Prod.mk.injEq, reduceCtorEq] at he
  obtain ⟨rfl, rfl, rfl⟩ := he
  exact f130 _ _
theorem f77 (l : List Row) (nl : OBo) (tt : Bool) : call E 77 [.c (.sl 5 nl tt (rows l))] [] = some ([V.b (right l)], []) := by
  have hct : (ctOf [(130, s130), (131, s131)]).ok E := ctOf_cons s130_ok (ctOf_cons s131_ok ctOf_nil)
  refine call_of (E := E) (sh := sh) (ct := ctOf [(130, s130), (131, s131)]) (na := 1) (m := 0) hct rfl rfl rfl rfl rfl rfl ?_
  rw [t77, rows_length]
  simp only [fd_br, decide_eq_true_eq]
  by_cases hl : (64 : Int) < l.length
  · rw [if_pos hl, fd_leaf]
    have : right l = false := by simp [right]; omega
    rw [this]
  · rw [if_neg hl]
    have hr : right l = okFrom none l := by simp [right]; omega
    rw [hr]
    refine fd_post hct (by kernel_rfl) rfl (list_post hct (b := b77_0) l.length (fun k (_ : Unit) => s77_0 nl tt (rows l) k) (fun k _ => okFrom (if k = 0 then none else l[k - 1]?) (l.drop k) = okFrom none l) _ ?_ ?_ 0 (Nat.zero_le _) () (by rfl))
    · intro k _ hk hi
      rw [List.drop_eq_getElem_cons hk] at hi
      simp only [okFrom] at hi
      rw [t77_0]
      simp only [ld_br, ld_chk', ld_leaf, fd_br, fd_chk', fd_leaf, decide_true, decide_eq_true_eq, if_true, Int.toNat_natCast, Int.natCast_nonneg, Int.ofNat_lt, Int.ofNat_le, Bool.false_eq_true, if_false, bne_iff_ne, beq_iff_eq, ne_eq, not_true_eq_false, not_false_eq_true, Bool.not_eq_true', decide_eq_false_iff_not, reduceCtorEq, rows_length, pcs_length, er_ok, er_ok', ep_ok, ep_ok', dr_er, dp_ep, isRows_rows, isPcs_pcs, toRows_rows, toPcs_pcs, rows_take, rows_drop, pcs_take, pcs_drop, rows_append, pcs_append, ints_length, isInts_ints, toInts_ints, ei_i, ei_ok, mk_headD, ints_take, ints_drop, ints_append, ints_snoc, ints_snoc', List.take_length, Nat.zero_add, Nat.le_refl, er_a, er_b, er_k, er_n, er_s, er_v, ep_a, ep_b, ep_hk, ep_hn, ep_hs, ep_wk, ep_wn, ep_ws, hk, rows_getD hk, wrap_succ (show k < 9223372036854775807 by omega), valR_eq]
      have ex0 : ∀ {b : Bool}, b = false → p77.fd (p77.fkx 0 x77_0x0) = some (.out [V.b b] []) := fun h => by rw [k77_0x0, fd_leaf, h]
      by_cases h1 : isSpan l[k].a l[k].b = false
      · right
        refine ⟨x77_0x0, by simp, ex0 (by rw [← hi, h1]; rfl), ?_⟩
        rw [if_pos h1]
      · rw [if_neg h1]
        have h1' : isSpan l[k].a l[k].b = true := by simpa using h1
        by_cases h2 : checkV l[k].v = 0
        · simp only [h2, not_true_eq_false, if_false]
          rw [h1', decide_eq_true h2, Bool.true_and, Bool.true_and] at hi
          cases k with
          | zero =>
            left
            refine ⟨(), ?_, ?_⟩
            · rw [← hi]; simp [List.getElem?_eq_getElem hk]
            · simp
          | succ k =>
            have hk' : k < l.length := by omega
            have e1 : l[k + 1 - 1]? = some l[k] := by simp [hk']
            rw [if_neg (by omega), e1] at hi
            simp only at hi
            have hw2 : IntKind.wrap .i64 (((k + 1 : Nat) : Int) - 1) = (k : Int) := by rw [wrap_same (by omega) (by omega)]; omega
            have hpos : (0 : Int) < ((k + 1 : Nat) : Int) := by omega
            simp only [hpos, if_true, hw2, Int.natCast_nonneg, Int.toNat_natCast, hk', rows_getD hk', er_ok', er_a, er_b, er_k, er_n, er_s, val_eqb, decide_eq_true_eq]
            by_cases h3 : l[k + 1].a < l[k].b
            · right
              refine ⟨x77_0x0, by simp, ex0 (by rw [← hi]; simp [h3]), by rw [if_pos h3]⟩
            · by_cases h4 : l[k + 1].a = l[k].b
              · by_cases h5 : l[k + 1].v = l[k].v
                · right
                  refine ⟨x77_0x0, by simp, ex0 (by rw [← hi]; simp [h4, h5]), by rw [if_neg h3, if_pos h4, if_pos h5]⟩
                · left
                  refine ⟨(), ?_, by rw [if_neg h3, if_pos h4, if_neg h5]⟩
                  rw [← hi]; simp [h3, h5, List.getElem?_eq_getElem hk]
              · left
                refine ⟨(), ?_, by rw [if_neg h3, if_neg h4]⟩
                rw [← hi]; simp [h3, h4, List.getElem?_eq_getElem hk]
        · right
          refine ⟨x77_0x0, by simp, ex0 (by rw [← hi]; simp [h2]), ?_⟩
          rw [if_pos h2]
    · intro _ hi
      rw [List.drop_length] at hi
      simp only [okFrom] at hi
      rw [t77_0]
      refine ⟨x77_0x1 nl tt (rows l) l.length, by simp, ?_, by simp only [ld_br, ld_chk', ld_leaf, fd_br, fd_chk', fd_leaf, decide_true, decide_eq_true_eq, if_true, Int.toNat_natCast, Int.natCast_nonneg, Int.ofNat_lt, Int.ofNat_le, Bool.false_eq_true, if_false, bne_iff_ne, beq_iff_eq, ne_eq, not_true_eq_false, not_false_eq_true, Bool.not_eq_true', decide_eq_false_iff_not, reduceCtorEq, rows_length, pcs_length, er_ok, er_ok', ep_ok, ep_ok', dr_er, dp_ep, isRows_rows, isPcs_pcs, toRows_rows, toPcs_pcs, rows_take, rows_drop, pcs_take, pcs_drop, rows_append, pcs_append, ints_length, isInts_ints, toInts_ints, ei_i, ei_ok, mk_headD, ints_take, ints_drop, ints_append, ints_snoc, ints_snoc', List.take_length, Nat.zero_add, Nat.le_refl, er_a, er_b, er_k, er_n, er_s, er_v, ep_a, ep_b, ep_hk, ep_hn, ep_hs, ep_wk, ep_wn, ep_ws, Nat.lt_irrefl]⟩
      rw [k77_0x1, fd_leaf, ← hi]
theorem row_eqb (x y : Row) : (x.a == y.a && (x.b == y.b && (x.v.k == y.v.k && (x.v.n == y.v.n && (x.v.s == y.v.s && true))))) = decide (x = y) := by
  obtain ⟨a, b, ⟨k, m, s⟩⟩ := x
  obtain ⟨a', b', ⟨k', m', s'⟩⟩ := y
  rw [Bool.eq_iff_iff]
  simp
theorem take_ext {α : Type} {l m : List α} {k : Nat} (h1 : l.take k = m.take k) (hk : k < l.length) (hm : k < m.length) (he : l[k] = m[k]) : l.take (k + 1) = m.take (k + 1) := by
  rw [List.take_succ, List.take_succ, h1, List.getElem?_eq_getElem hk, List.getElem?_eq_getElem hm, he]
theorem f26 (l m : List Row) (nl : OBo) (tt : Bool) (nl2 : OBo) (t2 : Bool) (hl : l.length ≤ 9223372036854775807) : call E 26 [.c (.sl 5 nl tt (rows l)), .c (.sl 5 nl2 t2 (rows m))] [] = some ([V.b (decide (l = m))], []) := by
  refine call_of (E := E) (sh := sh) (ct := ctOf []) (na := 2) (m := 0) ctOf_nil rfl rfl rfl rfl rfl rfl ?_
  rw [t26]
  simp only [ld_br, ld_chk', ld_leaf, fd_br, fd_chk', fd_leaf, decide_true, decide_eq_true_eq, if_true, Int.toNat_natCast, Int.natCast_nonneg, Int.ofNat_lt, Int.ofNat_le, Bool.false_eq_true, if_false, bne_iff_ne, beq_iff_eq, ne_eq, not_true_eq_false, not_false_eq_true, Bool.not_eq_true', decide_eq_false_iff_not, reduceCtorEq, rows_length, pcs_length, er_ok, er_ok', ep_ok, ep_ok', dr_er, dp_ep, isRows_rows, isPcs_pcs, toRows_rows, toPcs_pcs, rows_take, rows_drop, pcs_take, pcs_drop, rows_append, pcs_append, ints_length, isInts_ints, toInts_ints, ei_i, ei_ok, mk_headD, ints_take, ints_drop, ints_append, ints_snoc, ints_snoc', List.take_length, Nat.zero_add, Nat.le_refl, er_a, er_b, er_k, er_n, er_s, er_v, ep_a, ep_b, ep_hk, ep_hn, ep_hs, ep_wk, ep_wn, ep_ws]
  by_cases h : l.length = m.length
  · have h' : ¬ ¬ (l.length : Int) = m.length := by omega
    rw [if_neg h']
    refine fd_post ctOf_nil (by kernel_rfl) rfl (list_post ctOf_nil (b := b26_0) l.length (fun k (_ : Unit) => s26_0 nl tt (rows l) nl2 t2 (rows m) k) (fun k _ => l.take k = m.take k) _ ?_ ?_ 0 (Nat.zero_le _) () (by rfl))
    · intro k _ hk hi
      have hm : k < m.length := by omega
      rw [t26_0]
      simp only [ld_br, ld_chk', ld_leaf, fd_br, fd_chk', fd_leaf, decide_true, decide_eq_true_eq, if_true, Int.toNat_natCast, Int.natCast_nonneg, Int.ofNat_lt, Int.ofNat_le, Bool.false_eq_true, if_false, bne_iff_ne, beq_iff_eq, ne_eq, not_true_eq_false, not_false_eq_true, Bool.not_eq_true', decide_eq_false_iff_not, reduceCtorEq, rows_length, pcs_length, er_ok, er_ok', ep_ok, ep_ok', dr_er, dp_ep, isRows_rows, isPcs_pcs, toRows_rows, toPcs_pcs, rows_take, rows_drop, pcs_take, pcs_drop, rows_append, pcs_append, ints_length, isInts_ints, toInts_ints, ei_i, ei_ok, mk_headD, ints_take, ints_drop, ints_append, ints_snoc, ints_snoc', List.take_length, Nat.zero_add, Nat.le_refl, er_a, er_b, er_k, er_n, er_s, er_v, ep_a, ep_b, ep_hk, ep_hn, ep_hs, ep_wk, ep_wn, ep_ws, hk, hm, rows_getD hk, rows_getD hm, row_eqb, wrap_succ (show k < 9223372036854775807 by omega)]
      by_cases he : l[k] = m[k]
      · left
        exact ⟨(), take_ext hi hk hm he, by simp [he]⟩
      · right
        refine ⟨x26_0x0, by simp, ?_, by simp [he]⟩
        rw [k26_0x0, fd_leaf, decide_eq_false (fun e => he (by subst e; rfl))]
    · intro _ hi
      rw [t26_0]
      refine ⟨x26_0x1 nl tt (rows l) nl2 t2 (rows m) l.length, by simp, ?_, by simp only [ld_br, ld_chk', ld_leaf, fd_br, fd_chk', fd_leaf, decide_true, decide_eq_true_eq, if_true, Int.toNat_natCast, Int.natCast_nonneg, Int.ofNat_lt, Int.ofNat_le, Bool.false_eq_true, if_false, bne_iff_ne, beq_iff_eq, ne_eq, not_true_eq_false, not_false_eq_true, Bool.not_eq_true', decide_eq_false_iff_not, reduceCtorEq, rows_length, pcs_length, er_ok, er_ok', ep_ok, ep_ok', dr_er, dp_ep, isRows_rows, isPcs_pcs, toRows_rows, toPcs_pcs, rows_take, rows_drop, pcs_take, pcs_drop, rows_append, pcs_append, ints_length, isInts_ints, toInts_ints, ei_i, ei_ok, mk_headD, ints_take, ints_drop, ints_append, ints_snoc, ints_snoc', List.take_length, Nat.zero_add, Nat.le_refl, er_a, er_b, er_k, er_n, er_s, er_v, ep_a, ep_b, ep_hk, ep_hn, ep_hs, ep_wk, ep_wn, ep_ws, Nat.lt_irrefl]⟩
      rw [List.take_length, h, List.take_length] at hi
      rw [k26_0x1, fd_leaf, decide_eq_true hi]
  · have h' : ¬ (l.length : Int) = m.length := by omega
    rw [if_pos h', decide_eq_false (fun e => h (by rw [e]))]
end Go.Proofs.YtgaabjmbnomimaaDoor
namespace Go.Proofs.YtgaabjmbnomimaaDoor
open Go Go.Ev
mutual
def depT : Nd → Nat
  | .node _ _ kids => depL kids + 1
def depL : List Nd → Nat
  | [] => 0
  | t :: r => max (depT t) (depL r)
end
theorem depT_eq (t : Nd) : depT t = depL t.kids + 1 := by cases t; rw [depT]; rfl
theorem depL_mem : ∀ {l : List Nd} {t : Nd}, t ∈ l → depT t ≤ depL l
  | x :: r, t, h => by
    rw [depL]
    rcases List.mem_cons.1 h with rfl | h
    · exact Nat.le_max_left _ _
    · exact Nat.le_trans (depL_mem h) (Nat.le_max_right _ _)
theorem depL_kid {l : List Nd} {t : Nd} (h : t ∈ l) : depL t.kids < depL l := by
  have := depL_mem h
  rw [depT_eq] at this
  omega
def bsK (l : List Nd) (b : Int) : Nat → Nat → Nat → Nat
  | 0, lo, _ => lo
  | n + 1, lo, hi => if lo < hi then (if hdB (l.getD ((lo + hi) / 2) default).lab < b then bsK l b n ((lo + hi) / 2 + 1) hi else bsK l b n lo ((lo + hi) / 2)) else lo
def posK (l : List Nd) (b : Int) : Nat := bsK l b l.length 0 l.length
def hitK (l : List Nd) (b : Int) : Bool := decide (posK l b < l.length) && decide (hdB (l.getD (posK l b) default).lab = b)
theorem bsK_end (l : List Nd) (b : Int) (n : Nat) {lo hi : Nat} (h : ¬ lo < hi) : bsK l b n lo hi = lo := by
  cases n with
  | zero => rfl
  | succ n => simp only [bsK, if_neg h]
theorem bsK_fuel (l : List Nd) (b : Int) : ∀ (n m lo hi : Nat), hi - lo ≤ n → hi - lo ≤ m → bsK l b n lo hi = bsK l b m lo hi
  | 0, m, lo, hi, h1, h2 => by rw [bsK_end l b 0 (by omega), bsK_end l b m (by omega)]
  | n + 1, 0, lo, hi, h1, h2 => by rw [bsK_end l b 0 (by omega), bsK_end l b (n + 1) (by omega)]
  | n + 1, m + 1, lo, hi, h1, h2 => by
    simp only [bsK]
    split
    · split
      · exact bsK_fuel l b n m _ _ (by omega) (by omega)
      · exact bsK_fuel l b n m _ _ (by omega) (by omega)
    · rfl
theorem bsK_le (l : List Nd) (b : Int) : ∀ (n lo hi : Nat), lo ≤ hi → hi ≤ l.length → lo ≤ bsK l b n lo hi ∧ bsK l b n lo hi ≤ hi
  | 0, lo, hi, h, _ => ⟨Nat.le_refl _, h⟩
  | n + 1, lo, hi, h, h2 => by
    simp only [bsK]
    split
    · split
      · have := bsK_le l b n ((lo + hi) / 2 + 1) hi (by omega) h2; omega
      · have := bsK_le l b n lo ((lo + hi) / 2) (by omega) (by omega); omega
    · omega
theorem posK_le (l : List Nd) (b : Int) : posK l b ≤ l.length := (bsK_le l b _ 0 _ (Nat.zero_le _) (Nat.le_refl _)).2
def riseK (l : List Nd) : Prop := ∀ i j, i < j → j < l.length → hdB (l.getD i default).lab < hdB (l.getD j default).lab
theorem okL_rise : ∀ {l : List Nd} {n : Nat} {f : Int}, okL l n f = true → riseK l ∧ ∀ t ∈ l, f < hdB t.lab
  | [], n, f, _ => ⟨fun i j _ h => by simp at h, by simp⟩
  | t :: r, n, f, h => by
    simp only [okL, Bool.and_eq_true, decide_eq_true_eq] at h
    obtain ⟨k1, k2⟩ := okL_rise h.2
    refine ⟨fun i j hij hj => ?_, fun u hu => ?_⟩
    · cases j with
      | zero => omega
      | succ j =>
        have hj' : j < r.length := by simpa using hj
        cases i with
        | zero =>
          have := k2 (r.getD j default) (by rw [List.getD_eq_getElem?_getD, List.getElem?_eq_getElem hj']; exact List.getElem_mem hj')
          simpa using this
        | succ i => have := k1 i j (by omega) hj'; simpa using this
    · rcases List.mem_cons.1 hu with rfl | hu
      · exact h.1.2
      · have := k2 u hu; omega
theorem bsK_find (l : List Nd) (b : Int) (hs : riseK l) : ∀ (n lo hi : Nat), lo ≤ hi → hi ≤ l.length → hi - lo ≤ n → (∀ i, i < lo → hdB (l.getD i default).lab < b) → (∀ i, hi ≤ i → i < l.length → b ≤ hdB (l.getD i default).lab) →
    (∀ i, i < bsK l b n lo hi → hdB (l.getD i default).lab < b) ∧ (∀ i, bsK l b n lo hi ≤ i → i < l.length → b ≤ hdB (l.getD i default).lab)
  | 0, lo, hi, h, _, h3, h4, h5 => by
    obtain rfl : lo = hi := by omega
    exact ⟨h4, h5⟩
  | n + 1, lo, hi, h, h2, h3, h4, h5 => by
    simp only [bsK]
    split
    · rename_i hlt
      split
      · rename_i hb
        refine bsK_find l b hs n ((lo + hi) / 2 + 1) hi (by omega) h2 (by omega) (fun i hi' => ?_) h5
        rcases Nat.lt_or_ge i ((lo + hi) / 2) with hlt2 | hge
        · have := hs i _ hlt2 (by omega); omega
        · obtain rfl : i = (lo + hi) / 2 := by omega
          exact hb
      · rename_i hb
        refine bsK_find l b hs n lo ((lo + hi) / 2) (by omega) (by omega) (by omega) h4 (fun i h6 h7 => ?_)
        rcases Nat.lt_or_ge ((lo + hi) / 2) i with hlt2 | hge
        · have := hs _ i hlt2 h7; omega
        · obtain rfl : i = (lo + hi) / 2 := by omega
          omega
    · obtain rfl : lo = hi := by omega
      exact ⟨h4, h5⟩
theorem posK_find {l : List Nd} (hs : riseK l) (b : Int) : (∀ i, i < posK l b → hdB (l.getD i default).lab < b) ∧ (∀ i, posK l b ≤ i → i < l.length → b ≤ hdB (l.getD i default).lab) :=
  bsK_find l b hs _ 0 _ (Nat.zero_le _) (Nat.le_refl _) (by omega) (fun i h => by omega) (fun i h h2 => by omega)
theorem getD_at' {l : List Nd} {i : Nat} (h : i < l.length) : l.getD i default = l[i] := by simp [List.getD_eq_getElem?_getD, h]
theorem hdB_lt (l : Bys) : 0 ≤ hdB l ∧ hdB l ≤ 255 := by
  unfold hdB
  have := (l.headD 0).toNat_lt
  omega
theorem okL_len : ∀ {l : List Nd} {n : Nat} {f : Int}, okL l n f = true → f ≤ 255 → (l.length : Int) ≤ 255 - f
  | [], n, f, _, hf => by simp; omega
  | t :: r, n, f, h, hf => by
    simp only [okL, Bool.and_eq_true, decide_eq_true_eq] at h
    have h1 := hdB_lt t.lab
    have h2 := okL_len h.2 h1.2
    rw [List.length_cons]; omega
end Go.Proofs.YtgaabjmbnomimaaDoor
namespace Go.Proofs.YtgaabjmbnomimaaDoor
open Go Go.Ev
theorem rows_ex {xs : List (List C)} (h : isRows xs = true) : ∃ l, xs = rows l := ⟨_, rows_of h⟩
theorem beqL (p q : Bys) : (p == q) = decide (p = q) := by rw [Bool.eq_iff_iff]; simp
end Go.Proofs.YtgaabjmbnomimaaDoor
namespace Go.Proofs.YtgaabjmbnomimaaDoor
open Go Go.Ev
noncomputable abbrev p124 : Par := par E sh (ctOf []) 124 2 0
theorem t124 (s : Bys) (xs : LLC) (ys : LLC) (b : Int) : p124.ft ([V.agg [V.c (C.str s), V.c (C.sl 5 none false xs), V.c (C.sl 3 none false ys)], V.c (C.int IntKind.u8 b)]) ([]) = (Tr.chk true (Tr.chk (decide (Int.toNat 0 < s.length)) (Tr.leaf (R.out [V.c (C.int IntKind.i64 (IntKind.i64.wrap (IntKind.i64.wrap (↑(s.getD (Int.toNat 0) 0).toNat : Int) - IntKind.i64.wrap b)))] [])))) := by kernel_rfl
def s124 : CSpec := fun a h => match a, h with
  | [.agg [.c (.str s), .c (.sl 5 none false xs), .c (.sl 3 none false ys)], .c (.int .u8 b)], [] => some ([decide (s ≠ []), decide (0 ≤ b), decide (b ≤ 255)], [V.i (hdB s - b)], [])
  | _, _ => none
def labsOk (l : List Nd) : Bool := l.all fun t => decide (t.lab ≠ [])
noncomputable abbrev p68 : Par := par E sh (ctOf []) 68 1 0
theorem t68 (tt : Bool) (xs : LLC) : p68.ft ([V.c (C.sl 5 (some false) tt xs)]) ([]) = (Tr.br false (Tr.leaf (R.out [V.c (C.sl 5 none false [])] [])) (Tr.chk true (Tr.chk true (Tr.chk (decide (0 + xs.length < 4294967296)) (Tr.chk true (Tr.leaf (R.out [V.c (C.sl 5 none false (List.take (0 + xs.length) (List.take 0 [] ++ xs)))] []))))))) := by kernel_rfl
theorem t68n (tt : Bool) : p68.ft ([V.c (C.sl 5 (some true) tt [])]) ([]) = (Tr.br true (Tr.leaf (R.out [V.c (C.sl 5 none false [])] [])) (Tr.chk true (Tr.chk true (Tr.chk true (Tr.chk true (Tr.leaf (R.out [V.c (C.sl 5 none false [])] []))))))) := by kernel_rfl
theorem t140c (tt : Bool) (x : List C) (xs : LLC) : p68.ft ([V.c (C.sl 5 none tt (x :: xs))]) ([]) = (Tr.br false (Tr.leaf (R.out [V.c (C.sl 5 none false [])] [])) (Tr.chk true (Tr.chk true (Tr.chk (decide (0 + (x :: xs).length < 4294967296)) (Tr.chk true (Tr.leaf (R.out [V.c (C.sl 5 none false (List.take (0 + (x :: xs).length) (List.take 0 [] ++ x :: xs)))] []))))))) := by kernel_rfl
variable (dd : Nat)
def s69 : CSpec := fun a h => match a, h with
  | [.c (.sl 3 nl tt xs), .c (.int .i64 n)], [] => some ([isL xs, decide (depL (decL xs) < dd), decide (0 ≤ n), decide (n < 1000000)], [V.b (okL (decL xs) n.toNat (-1))], [])
  | _, _ => none
noncomputable abbrev p69 : Par := par E sh (ctOf [(64, s64), (69, s69 dd)]) 69 2 0
abbrev s69_0 (nl : OBo) (tt : Bool) (xs : LLC) (n : Int) (i5 : Int) (i9 : Int) (i10 : Int) : Fr × Hp := ([(1, V.c (C.int IntKind.i64 n)), (5, V.c (C.int IntKind.i64 i5)), (8, V.c (C.sl 3 nl tt xs)), (9, V.c (C.int IntKind.i64 i9)), (10, V.c (C.int IntKind.i64 i10))], [])
noncomputable abbrev b69_0 : Code := loopAt (codeOf E (69)) 0
abbrev x69_0x0 (sh0 : Bys) (nlh0 : OBo) (xsh0 : LLC) (xsh0_1 : LLC) : Ex × Fr × Hp := (Ex.ret, [(4, V.c (C.bool false))], [O.box [V.c (C.str sh0), V.c (C.sl 5 nlh0 false xsh0), V.c (C.sl 3 nlh0 false xsh0_1)]])
abbrev x69_0x1 (nl : OBo) (tt : Bool) (xs : LLC) (n : Int) (i5 : Int) (i9 : Int) (i10 : Int) : Ex × Fr × Hp := (Ex.exit 0, [(1, V.c (C.int IntKind.i64 n)), (5, V.c (C.int IntKind.i64 i5)), (8, V.c (C.sl 3 nl tt xs)), (9, V.c (C.int IntKind.i64 i9)), (10, V.c (C.int IntKind.i64 i10)), (11, V.c (C.bool false))], [])
theorem t69_0 (nl : OBo) (tt : Bool) (xs : LLC) (n : Int) (i5 : Int) (i9 : Int) (i10 : Int) : (p69 dd).lts b69_0 (s69_0 nl tt xs n i5 i9 i10) = (Tr.br (decide (i10 < i9)) (Tr.chk (decide (0 ≤ i10)) (Tr.chk true (Tr.chk (decide (i10.toNat < xs.length)) (Tr.chk (shOk [Sk.str, Sk.sl 5, Sk.sl 3] (xs.getD i10.toNat [])) (Tr.br (((xs.getD i10.toNat []).headD C.pnil).st == []) (Tr.leaf (R.x (x69_0x0 (((xs.getD i10.toNat []).headD C.pnil).st) (none) (((xs.getD i10.toNat []).tail.headD C.pnil).xs) (((xs.getD i10.toNat []).tail.tail.headD C.pnil).xs)))) (Tr.br (decide (n < (↑((xs.getD i10.toNat []).headD C.pnil).st.length : Int))) (Tr.leaf (R.x (x69_0x0 (((xs.getD i10.toNat []).headD C.pnil).st) (none) (((xs.getD i10.toNat []).tail.headD C.pnil).xs) (((xs.getD i10.toNat []).tail.tail.headD C.pnil).xs)))) (Tr.chk true (Tr.chk (decide (Int.toNat 0 < ((xs.getD i10.toNat []).headD C.pnil).st.length)) (Tr.br (decide (IntKind.i64.wrap (↑(((xs.getD i10.toNat []).headD C.pnil).st.getD (Int.toNat 0) 0).toNat : Int) ≤ i5)) (Tr.leaf (R.x (x69_0x0 (((xs.getD i10.toNat []).headD C.pnil).st) (none) (((xs.getD i10.toNat []).tail.headD C.pnil).xs) (((xs.getD i10.toNat []).tail.tail.headD C.pnil).xs)))) (Tr.chk (isRows ((xs.getD i10.toNat []).tail.headD C.pnil).xs) (Tr.br (checkR (toRows ((xs.getD i10.toNat []).tail.headD C.pnil).xs) != 0) (Tr.leaf (R.x (x69_0x0 (((xs.getD i10.toNat []).headD C.pnil).st) (none) (((xs.getD i10.toNat []).tail.headD C.pnil).xs) (((xs.getD i10.toNat []).tail.tail.headD C.pnil).xs)))) (Tr.br ((↑((xs.getD i10.toNat []).tail.headD C.pnil).xs.length : Int) == 0) (Tr.br (decide ((↑((xs.getD i10.toNat []).tail.tail.headD C.pnil).xs.length : Int) < 2)) (Tr.leaf (R.x (x69_0x0 (((xs.getD i10.toNat []).headD C.pnil).st) (none) (((xs.getD i10.toNat []).tail.headD C.pnil).xs) (((xs.getD i10.toNat []).tail.tail.headD C.pnil).xs)))) (Tr.chk (isL ((xs.getD i10.toNat []).tail.tail.headD C.pnil).xs) (Tr.chk (decide (depL (decL ((xs.getD i10.toNat []).tail.tail.headD C.pnil).xs) < dd)) (Tr.chk (decide (0 ≤ IntKind.i64.wrap (n - (↑((xs.getD i10.toNat []).headD C.pnil).st.length : Int)))) (Tr.chk (decide (IntKind.i64.wrap (n - (↑((xs.getD i10.toNat []).headD C.pnil).st.length : Int)) < 1000000)) (Tr.br (!okL (decL ((xs.getD i10.toNat []).tail.tail.headD C.pnil).xs) (IntKind.i64.wrap (n - (↑((xs.getD i10.toNat []).headD C.pnil).st.length : Int))).toNat (-1)) (Tr.leaf (R.x (x69_0x0 (((xs.getD i10.toNat []).headD C.pnil).st) (none) (((xs.getD i10.toNat []).tail.headD C.pnil).xs) (((xs.getD i10.toNat []).tail.tail.headD C.pnil).xs)))) (Tr.chk true (Tr.chk (decide (Int.toNat 0 < ((xs.getD i10.toNat []).headD C.pnil).st.length)) (Tr.leaf (R.s (s69_0 nl tt xs n (IntKind.i64.wrap (↑(((xs.getD i10.toNat []).headD C.pnil).st.getD (Int.toNat 0) 0).toNat : Int)) i9 (IntKind.i64.wrap (i10 + 1))))))))))))) (Tr.chk (isL ((xs.getD i10.toNat []).tail.tail.headD C.pnil).xs) (Tr.chk (decide (depL (decL ((xs.getD i10.toNat []).tail.tail.headD C.pnil).xs) < dd)) (Tr.chk (decide (0 ≤ IntKind.i64.wrap (n - (↑((xs.getD i10.toNat []).headD C.pnil).st.length : Int)))) (Tr.chk (decide (IntKind.i64.wrap (n - (↑((xs.getD i10.toNat []).headD C.pnil).st.length : Int)) < 1000000)) (Tr.br (!okL (decL ((xs.getD i10.toNat []).tail.tail.headD C.pnil).xs) (IntKind.i64.wrap (n - (↑((xs.getD i10.toNat []).headD C.pnil).st.length : Int))).toNat (-1)) (Tr.leaf (R.x (x69_0x0 (((xs.getD i10.toNat []).headD C.pnil).st) (none) (((xs.getD i10.toNat []).tail.headD C.pnil).xs) (((xs.getD i10.toNat []).tail.tail.headD C.pnil).xs)))) (Tr.chk true (Tr.chk (decide (Int.toNat 0 < ((xs.getD i10.toNat []).headD C.pnil).st.length)) (Tr.leaf (R.s (s69_0 nl tt xs n (IntKind.i64.wrap (↑(((xs.getD i10.toNat []).headD C.pnil).st.getD (Int.toNat 0) 0).toNat : Int)) i9 (IntKind.i64.wrap (i10 + 1)))))))))))))))))))))))) (Tr.leaf (R.x (x69_0x1 nl tt xs n i5 i9 i10)))) := by kernel_rfl
theorem k69_0x0 (dd : Nat) (sh0 : Bys) (nlh0 : OBo) (xsh0 : LLC) (xsh0_1 : LLC) : (p69 dd).fkx 0 (x69_0x0 sh0 nlh0 xsh0 xsh0_1) = (Tr.leaf (R.out [V.c (C.bool false)] [])) := by kernel_rfl
theorem k69_0x1 (dd : Nat) (nl : OBo) (tt : Bool) (xs : LLC) (n : Int) (i5 : Int) (i9 : Int) (i10 : Int) : (p69 dd).fkx 0 (x69_0x1 nl tt xs n i5 i9 i10) = (Tr.leaf (R.out [V.c (C.bool true)] [])) := by kernel_rfl
theorem t69 (nl : OBo) (tt : Bool) (xs : LLC) (n : Int) : (p69 dd).ft ([V.c (C.sl 3 nl tt xs), V.i n]) ([]) = (Tr.ls 0 (s69_0 nl tt xs n (-1) ((↑xs.length : Int)) (0))) := by kernel_rfl
end Go.Proofs.YtgaabjmbnomimaaDoor
namespace Go.Proofs.YtgaabjmbnomimaaDoor
open Go Go.Ev
theorem nd_ok (t : Nd) : shOk [Sk.str, Sk.sl 5, Sk.sl 3] t.enc = true := by rw [Nd.enc_eq]; rfl
theorem nd_lab (t : Nd) (d : C) : ((t.enc).headD d).st = t.lab := by rw [Nd.enc_eq]; rfl
theorem nd_rows (t : Nd) (d : C) : ((t.enc).tail.headD d).xs = rows t.rows := by rw [Nd.enc_eq]; rfl
theorem nd_kids (t : Nd) (d : C) : ((t.enc).tail.tail.headD d).xs = encL t.kids := by rw [Nd.enc_eq]; rfl
theorem hd_getD (s : Bys) : (((s.getD (Int.toNat 0) 0).toNat : Nat) : Int) = hdB s := by cases s <;> rfl
theorem wrap_hd (s : Bys) : IntKind.wrap .i64 (((s.getD (Int.toNat 0) 0).toNat : Nat) : Int) = hdB s := by
  rw [hd_getD]
  have := hdB_lt s
  exact wrap_same (by omega) (by omega)
theorem hd_pos (s : Bys) : (Int.toNat 0 < s.length) = (s ≠ []) := by
  cases s <;> simp
theorem f124 (s : Bys) (xs ys : LLC) (b : Int) (hs : s ≠ []) (h0 : 0 ≤ b) (h1 : b ≤ 255) : call E 124 [.agg [.c (.str s), .c (.sl 5 none false xs), .c (.sl 3 none false ys)], .c (.int .u8 b)] [] = some ([V.i (hdB s - b)], []) := by
  refine call_of (E := E) (sh := sh) (ct := ctOf []) (na := 2) (m := 0) ctOf_nil rfl rfl rfl rfl rfl rfl ?_
  rw [t124]
  have h2 := hdB_lt s
  have w1 : IntKind.wrap .i64 b = b := wrap_same (by omega) (by omega)
  have w2 : IntKind.wrap .i64 (hdB s - b) = hdB s - b := wrap_same (by omega) (by omega)
  simp only [nd_ok, nd_lab, nd_rows, nd_kids, encL_length, isL_enc, decL_enc, wrap_hd, hd_pos, ld_br, ld_chk', ld_leaf, fd_br, fd_chk', fd_leaf, decide_true, decide_eq_true_eq, if_true, Int.toNat_natCast, Int.natCast_nonneg, Int.ofNat_lt, Int.ofNat_le, Bool.false_eq_true, if_false, bne_iff_ne, beq_iff_eq, ne_eq, not_true_eq_false, not_false_eq_true, Bool.not_eq_true', decide_eq_false_iff_not, reduceCtorEq, rows_length, pcs_length, er_ok, er_ok', ep_ok, ep_ok', dr_er, dp_ep, isRows_rows, isPcs_pcs, toRows_rows, toPcs_pcs, rows_take, rows_drop, pcs_take, pcs_drop, rows_append, pcs_append, ints_length, isInts_ints, toInts_ints, ei_i, ei_ok, mk_headD, ints_take, ints_drop, ints_append, ints_snoc, ints_snoc', List.take_length, Nat.zero_add, Nat.le_refl, er_a, er_b, er_k, er_n, er_s, er_v, ep_a, ep_b, ep_hk, ep_hn, ep_hs, ep_wk, ep_wn, ep_ws, w1, w2, hs]
theorem s124_ok : CSpecOk E 124 s124 := by
  intro a h cs vals h' he hc
  unfold s124 at he
  split at he <;> simp only [Option.some.injEq, Prod.mk.injEq, reduceCtorEq] at he
  rename_i s xs ys b
  obtain ⟨rfl, rfl, rfl⟩ := he
  simp only [allT, Bool.and_true, Bool.and_eq_true, decide_eq_true_eq] at hc
  obtain ⟨h1, h2, h3⟩ := hc
  exact f124 s xs ys b h1 h2 h3
theorem labs_mem {l : List Nd} (h : labsOk l = true) {k : Nat} (hk : k < l.length) : l[k].lab ≠ [] := by
  have := List.all_eq_true.1 h l[k] (List.getElem_mem hk)
  simpa using this
def s68 : CSpec := fun a h => match a, h with
  | [.c (.sl 5 nl tt xs)], [] => some ([decide (xs.length < 4294967296), decide (nl ≠ some true ∨ xs = [])], [.c (.sl 5 none false xs)], [])
  | _, _ => none
theorem s68_ok : CSpecOk E 68 s68 := by
  intro a h cs vals h' he hc
  unfold s68 at he
  split at he <;> simp only [Option.some.injEq, Prod.mk.injEq, reduceCtorEq] at he
  rename_i nl tt xs
  obtain ⟨rfl, rfl, rfl⟩ := he
  simp only [allT, Bool.and_true, Bool.and_eq_true, decide_eq_true_eq] at hc
  obtain ⟨hc, hn⟩ := hc
  have some_false : ∀ tt, call E 68 [.c (.sl 5 (some false) tt xs)] [] = some ([.c (.sl 5 none false xs)], []) := fun tt => by
    refine call_of (E := E) (sh := sh) (ct := ctOf []) (na := 1) (m := 0) ctOf_nil rfl rfl rfl rfl rfl rfl ?_
    rw [t68]
    simp [fd_br, fd_chk', fd_leaf, hc]
  match nl, xs, hc, hn, some_false with
  | some false, xs, hc, hn, sf => exact sf tt
  | some true, xs, hc, hn, sf =>
    obtain rfl : xs = [] := by simpa using hn
    refine call_of (E := E) (sh := sh) (ct := ctOf []) (na := 1) (m := 0) ctOf_nil rfl rfl rfl rfl rfl rfl ?_
    rw [t68n]; rfl
  | none, [], hc, hn, sf =>
    refine call_split' (E := E) (a1 := [.c (.sl 5 (some true) true [])]) (a2 := [.c (.sl 5 (some false) tt [])]) rfl rfl rfl rfl rfl ?_ (sf tt) rfl
    refine call_of (E := E) (sh := sh) (ct := ctOf []) (na := 1) (m := 0) ctOf_nil rfl rfl rfl rfl rfl rfl ?_
    rw [t68n]; rfl
  | none, x :: r, hc, hn, sf =>
    refine call_of (E := E) (sh := sh) (ct := ctOf []) (na := 1) (m := 0) ctOf_nil rfl rfl rfl rfl rfl rfl ?_
    rw [t140c]
    simp only [List.length_cons] at hc
    simp [fd_br, fd_chk', fd_leaf, hc]
theorem nil_len {α : Type} (l : List α) : ((l.length : Int) = 0) = (l = []) := by
  cases l <;> simp; omega
theorem okL_cons (t : Nd) (r : List Nd) (n : Nat) (f : Int) : okL (t :: r) n f = (okT t n && decide (f < hdB t.lab) && okL r n (hdB t.lab)) := by rw [okL]
theorem f69 (d : Nat) (ih : CSpecOk E 69 (s69 d)) (l : List Nd) (nl : OBo) (tt : Bool) (n : Int) (hd : depL l < d + 1) (h0 : 0 ≤ n) (h1 : n < 1000000) : call E 69 [.c (.sl 3 nl tt (encL l)), V.i n] [] = some ([V.b (okL l n.toNat (-1))], []) := by
  have hct : (ctOf [(64, s64), (69, s69 d)]).ok E := ctOf_cons s64_ok (ctOf_cons ih ctOf_nil)
  refine call_of (E := E) (sh := sh) (ct := ctOf [(64, s64), (69, s69 d)]) (na := 2) (m := 0) hct rfl rfl rfl rfl rfl rfl ?_
  show (p69 d).fd ((p69 d).ft _ _) = _
  rw [t69, encL_length]
  refine fd_post hct (by kernel_rfl) rfl (list_post (p := p69 d) hct (b := b69_0) l.length (fun k (f : Int) => s69_0 nl tt (encL l) n f l.length k) (fun k f => okL (l.drop k) n.toNat f = okL l n.toNat (-1) ∧ (k : Int) ≤ f + 1 ∧ f ≤ 255) _ ?_ ?_ 0 (Nat.zero_le _) (-1) ⟨rfl, by simp, by omega⟩)
  · rintro k f hk ⟨hi, hf, hf2⟩
    rw [List.drop_eq_getElem_cons hk, okL_cons, okT_eq] at hi
    have hkid : depL l[k].kids < d := by have := depL_kid (List.getElem_mem hk); omega
    have ex0 : okL l n.toNat (-1) = false → (p69 d).fd ((p69 d).fkx 0 (x69_0x0 l[k].lab none (rows l[k].rows) (encL l[k].kids))) = some (.out [V.b (okL l n.toNat (-1))] []) := fun h => by rw [k69_0x0, fd_leaf, h]
    have hh := hdB_lt l[k].lab
    rw [t69_0]
    simp only [nd_ok, nd_lab, nd_rows, nd_kids, encL_length, isL_enc, decL_enc, wrap_hd, hd_pos, ld_br, ld_chk', ld_leaf, fd_br, fd_chk', fd_leaf, decide_true, decide_eq_true_eq, if_true, Int.toNat_natCast, Int.natCast_nonneg, Int.ofNat_lt, Int.ofNat_le, Bool.false_eq_true, if_false, bne_iff_ne, beq_iff_eq, ne_eq, not_true_eq_false, not_false_eq_true, Bool.not_eq_true', decide_eq_false_iff_not, reduceCtorEq, rows_length, pcs_length, er_ok, er_ok', ep_ok, ep_ok', dr_er, dp_ep, isRows_rows, isPcs_pcs, toRows_rows, toPcs_pcs, rows_take, rows_drop, pcs_take, pcs_drop, rows_append, pcs_append, ints_length, isInts_ints, toInts_ints, ei_i, ei_ok, mk_headD, ints_take, ints_drop, ints_append, ints_snoc, ints_snoc', List.take_length, Nat.zero_add, Nat.le_refl, er_a, er_b, er_k, er_n, er_s, er_v, ep_a, ep_b, ep_hk, ep_hn, ep_hs, ep_wk, ep_wn, ep_ws, hk, encL_getD hk, wrap_succ (show k < 9223372036854775807 by omega), rows_length, checkR_ne, isRows_rows, toRows_rows, nil_len]
    by_cases c1 : l[k].lab = []
    · exact .inr ⟨x69_0x0 l[k].lab none (rows l[k].rows) (encL l[k].kids), by simp, ex0 (by rw [← hi]; simp [c1]), by rw [if_pos c1]⟩
    rw [if_neg c1]
    by_cases c2 : n < l[k].lab.length
    · exact .inr ⟨x69_0x0 l[k].lab none (rows l[k].rows) (encL l[k].kids), by simp, ex0 (by rw [← hi]; simp [show ¬ l[k].lab.length ≤ n.toNat by omega]), by rw [if_pos c2]⟩
    rw [if_neg c2, if_pos c1]
    by_cases c3 : hdB l[k].lab ≤ f
    · exact .inr ⟨x69_0x0 l[k].lab none (rows l[k].rows) (encL l[k].kids), by simp, ex0 (by rw [← hi]; simp [show ¬ f < hdB l[k].lab by omega]), by rw [if_pos c3]⟩
    rw [if_neg c3]
    by_cases c4 : right l[k].rows = false
    · exact .inr ⟨x69_0x0 l[k].lab none (rows l[k].rows) (encL l[k].kids), by simp, ex0 (by rw [← hi]; simp [c4]), by rw [if_pos c4]⟩
    rw [if_neg c4]
    rw [Bool.not_eq_false] at c4
    have w1 : IntKind.wrap .i64 (n - (l[k].lab.length : Int)) = ((n.toNat - l[k].lab.length : Nat) : Int) := by rw [wrap_same (by omega) (by omega)]; omega
    have c2' : l[k].lab.length ≤ n.toNat := by omega
    have c3' : f < hdB l[k].lab := by omega
    have w2 : ((n.toNat - l[k].lab.length : Nat) : Int) < 1000000 := by omega
    simp only [w1, hkid, w2, Int.natCast_nonneg, Int.toNat_natCast, if_true, c1, ne_eq, not_false_eq_true]
    have rest : (l[k].rows ≠ [] ∨ 2 ≤ l[k].kids.length) → ((∃ s', ((okL (l.drop (k + 1)) n.toNat s' = okL l n.toNat (-1)) ∧ ((k + 1 : Nat) : Int) ≤ s' + 1 ∧ s' ≤ 255) ∧ (if okL l[k].kids (n.toNat - l[k].lab.length) (-1) = false then some (R.x (x69_0x0 l[k].lab none (rows l[k].rows) (encL l[k].kids))) else some (R.s (s69_0 nl tt (encL l) n (hdB l[k].lab) l.length ((k + 1 : Nat) : Int)))) = some (R.s (s69_0 nl tt (encL l) n s' l.length ((k + 1 : Nat) : Int)))) ∨ (∃ x : Ex × Fr × Hp, x.1 ≠ .nrm ∧ (p69 d).fd ((p69 d).fkx 0 x) = some (.out [V.b (okL l n.toNat (-1))] []) ∧ (if okL l[k].kids (n.toNat - l[k].lab.length) (-1) = false then some (R.x (x69_0x0 l[k].lab none (rows l[k].rows) (encL l[k].kids))) else some (R.s (s69_0 nl tt (encL l) n (hdB l[k].lab) l.length ((k + 1 : Nat) : Int)))) = some (R.x x))) := by
      intro c5
      have e5 : (decide (l[k].rows ≠ []) || decide (2 ≤ l[k].kids.length)) = true := by simpa using c5
      by_cases c6 : okL l[k].kids (n.toNat - l[k].lab.length) (-1) = false
      · exact .inr ⟨x69_0x0 l[k].lab none (rows l[k].rows) (encL l[k].kids), by simp, ex0 (by rw [← hi, c6]; simp), by rw [if_pos c6]⟩
      · rw [Bool.not_eq_false] at c6
        refine .inl ⟨hdB l[k].lab, ⟨?_, by omega, hh.2⟩, by rw [if_neg (by simp [c6])]⟩
        rw [← hi, c6, c4, e5]; simp [c1, c2', c3']
    by_cases c5 : l[k].rows = []
    · rw [if_pos c5]
      by_cases c6 : (l[k].kids.length : Int) < 2
      · exact .inr ⟨x69_0x0 l[k].lab none (rows l[k].rows) (encL l[k].kids), by simp, ex0 (by rw [← hi]; simp [c5, show ¬ 2 ≤ l[k].kids.length by omega]), by rw [if_pos c6]⟩
      · rw [if_neg c6]
        exact rest (.inr (by omega))
    · rw [if_neg c5]
      exact rest (.inl c5)
  · rintro f ⟨hi, hf, hf2⟩
    rw [List.drop_length, okL] at hi
    rw [t69_0]
    exact ⟨x69_0x1 nl tt (encL l) n f l.length l.length, by simp, by rw [k69_0x1, fd_leaf, ← hi], by simp only [nd_ok, nd_lab, nd_rows, nd_kids, encL_length, isL_enc, decL_enc, wrap_hd, hd_pos, ld_br, ld_chk', ld_leaf, fd_br, fd_chk', fd_leaf, decide_true, decide_eq_true_eq, if_true, Int.toNat_natCast, Int.natCast_nonneg, Int.ofNat_lt, Int.ofNat_le, Bool.false_eq_true, if_false, bne_iff_ne, beq_iff_eq, ne_eq, not_true_eq_false, not_false_eq_true, Bool.not_eq_true', decide_eq_false_iff_not, reduceCtorEq, rows_length, pcs_length, er_ok, er_ok', ep_ok, ep_ok', dr_er, dp_ep, isRows_rows, isPcs_pcs, toRows_rows, toPcs_pcs, rows_take, rows_drop, pcs_take, pcs_drop, rows_append, pcs_append, ints_length, isInts_ints, toInts_ints, ei_i, ei_ok, mk_headD, ints_take, ints_drop, ints_append, ints_snoc, ints_snoc', List.take_length, Nat.zero_add, Nat.le_refl, er_a, er_b, er_k, er_n, er_s, er_v, ep_a, ep_b, ep_hk, ep_hn, ep_hs, ep_wk, ep_wn, ep_ws, Int.lt_irrefl]⟩
theorem s69_ok : ∀ d, CSpecOk E 69 (s69 d)
  | 0 => by
    intro a h cs vals h' he hc
    unfold s69 at he
    split at he <;> simp only [Option.some.injEq, Prod.mk.injEq, reduceCtorEq] at he
    obtain ⟨rfl, rfl, rfl⟩ := he
    simp [allT] at hc
  | d + 1 => by
    intro a h cs vals h' he hc
    unfold s69 at he
    split at he <;> simp only [Option.some.injEq, Prod.mk.injEq, reduceCtorEq] at he
    rename_i nl tt xs n
    obtain ⟨rfl, rfl, rfl⟩ := he
    simp only [allT, Bool.and_true, Bool.and_eq_true, decide_eq_true_eq] at hc
    obtain ⟨h1, h2, h3, h4⟩ := hc
    obtain ⟨l, rfl⟩ := isL_ex h1
    rw [decL_enc] at *
    exact f69 d (s69_ok d) l nl tt n h2 h3 h4
end Go.Proofs.YtgaabjmbnomimaaDoor
namespace Go.Proofs.YtgaabjmbnomimaaDoor
open Go Go.Ev
variable (dd : Nat)
noncomputable abbrev p28 : Par := par E sh (ctOf [(69, s69 dd)]) 28 1 0
theorem t28 (s : Bys) (rn : OBo) (rt : Bool) (xs : LLC) (kn : OBo) (kt : Bool) (ys : LLC) : (p28 dd).ft ([V.agg [V.c (C.str s), V.c (C.sl 5 rn rt xs), V.c (C.sl 3 kn kt ys)]]) ([]) = (Tr.br (!s == []) (Tr.leaf (R.out [V.c (C.int IntKind.i64 2)] [])) (Tr.br (decide (0 < (↑xs.length : Int))) (Tr.leaf (R.out [V.c (C.int IntKind.i64 2)] [])) (Tr.chk (isL ys) (Tr.chk (decide (depL (decL ys) < dd)) (Tr.chk true (Tr.chk true (Tr.br (!okL (decL ys) (Int.toNat 24) (-1)) (Tr.leaf (R.out [V.c (C.int IntKind.i64 2)] [])) (Tr.leaf (R.out [V.c (C.int IntKind.i64 0)] []))))))))) := by kernel_rfl
def checkT (t : Nd) : Int := if okR t = true then 0 else 2
def s28 : CSpec := fun a h => match a, h with
  | [.agg [.c (.str s), .c (.sl 5 rn rt xs), .c (.sl 3 kn kt ys)]], [] => some ([isRows xs, isL ys], [V.i (checkT (.node s (toRows xs) (decL ys)))], [])
  | _, _ => none
def s66 : CSpec := fun a h => match a, h with
  | [.c (.sl 3 nl tt xs), .c (.int .u8 b)], [] => some ([isL xs, labsOk (decL xs), decide (0 ≤ b), decide (b ≤ 255), decide (xs.length < 4294967296)], [V.i (posK (decL xs) b), V.b (hitK (decL xs) b)], [])
  | _, _ => none
def s165 : CSpec := fun a h => match a, h with
  | [.agg [.c (.str s), .c (.sl 5 none false xs), .c (.sl 3 none false ys)], .c (.int .i64 n)], [] => some ([isRows xs, isL ys, decide (depL (decL ys) + 1 < dd), decide (0 ≤ n), decide (n < 1000000)], [V.b (okT (.node s (toRows xs) (decL ys)) n.toNat)], [])
  | _, _ => none
def s133 : CSpec := fun a h => match a, h with
  | [.agg [.c (.str s), .c (.sl 5 rn rt xs), .c (.sl 3 kn kt ys)], .c (.int .i64 n)], [] => some ([isRows xs, isL ys, decide (depL (decL ys) < dd), decide (0 ≤ n), decide (n < 1000000)], [V.b (okL (decL ys) n.toNat (-1))], [])
  | _, _ => none
noncomputable abbrev p133 : Par := par E sh (ctOf [(165, s165 dd)]) 133 2 0
abbrev s133_0 (s : Bys) (rn : OBo) (rt : Bool) (xs : LLC) (kn : OBo) (kt : Bool) (ys : LLC) (n : Int) (i5 : Int) : Fr × Hp := ([(1, V.c (C.int IntKind.i64 n)), (2, V.ptr 0 0 0 0), (5, V.c (C.int IntKind.i64 i5))], [O.box [V.c (C.str s), V.c (C.sl 5 rn rt xs), V.c (C.sl 3 kn kt ys)]])
noncomputable abbrev b133_0 : Code := loopAt (codeOf E (133)) 0
abbrev x133_0x0 (s : Bys) (rn : OBo) (rt : Bool) (xs : LLC) (kn : OBo) (kt : Bool) (ys : LLC) : Ex × Fr × Hp := (Ex.ret, [(4, V.c (C.bool false))], [O.box [V.c (C.str s), V.c (C.sl 5 rn rt xs), V.c (C.sl 3 kn kt ys)]])
abbrev x133_0x1 (s : Bys) (rn : OBo) (rt : Bool) (xs : LLC) (kn : OBo) (kt : Bool) (ys : LLC) (n : Int) (i5 : Int) : Ex × Fr × Hp := (Ex.exit 0, [(1, V.c (C.int IntKind.i64 n)), (2, V.ptr 0 0 0 0), (5, V.c (C.int IntKind.i64 i5)), (14, V.c (C.bool false))], [O.box [V.c (C.str s), V.c (C.sl 5 rn rt xs), V.c (C.sl 3 kn kt ys)]])
theorem t133_0 (s : Bys) (rn : OBo) (rt : Bool) (xs : LLC) (kn : OBo) (kt : Bool) (ys : LLC) (n : Int) (i5 : Int) : (p133 dd).lts b133_0 (s133_0 s rn rt xs kn kt ys n i5) = (Tr.br (decide (i5 < (↑ys.length : Int))) (Tr.chk (decide (0 ≤ i5)) (Tr.chk true (Tr.chk (decide (i5.toNat < ys.length)) (Tr.chk (shOk [Sk.str, Sk.sl 5, Sk.sl 3] (ys.getD i5.toNat [])) (Tr.chk (isRows ((ys.getD i5.toNat []).tail.headD C.pnil).xs) (Tr.chk (isL ((ys.getD i5.toNat []).tail.tail.headD C.pnil).xs) (Tr.chk (decide (depL (decL ((ys.getD i5.toNat []).tail.tail.headD C.pnil).xs) + 1 < dd)) (Tr.chk (decide (0 ≤ n)) (Tr.chk (decide (n < 1000000)) (Tr.br (!okT (Nd.node ((ys.getD i5.toNat []).headD C.pnil).st (toRows ((ys.getD i5.toNat []).tail.headD C.pnil).xs) (decL ((ys.getD i5.toNat []).tail.tail.headD C.pnil).xs)) n.toNat) (Tr.leaf (R.x (x133_0x0 s rn rt xs kn kt ys))) (Tr.br (decide (0 < i5)) (Tr.chk (decide (0 ≤ IntKind.i64.wrap (i5 - 1))) (Tr.chk true (Tr.chk (decide ((IntKind.i64.wrap (i5 - 1)).toNat < ys.length)) (Tr.chk (shOk [Sk.str, Sk.sl 5, Sk.sl 3] (ys.getD (IntKind.i64.wrap (i5 - 1)).toNat [])) (Tr.chk true (Tr.chk (decide (Int.toNat 0 < ((ys.getD (IntKind.i64.wrap (i5 - 1)).toNat []).headD C.pnil).st.length)) (Tr.chk (decide (0 ≤ i5)) (Tr.chk true (Tr.chk (decide (i5.toNat < ys.length)) (Tr.chk (shOk [Sk.str, Sk.sl 5, Sk.sl 3] (ys.getD i5.toNat [])) (Tr.chk true (Tr.chk (decide (Int.toNat 0 < ((ys.getD i5.toNat []).headD C.pnil).st.length)) (Tr.br (decide ((↑(((ys.getD i5.toNat []).headD C.pnil).st.getD (Int.toNat 0) 0).toNat : Int) ≤ (↑(((ys.getD (IntKind.i64.wrap (i5 - 1)).toNat []).headD C.pnil).st.getD (Int.toNat 0) 0).toNat : Int))) (Tr.leaf (R.x (x133_0x0 s rn rt xs kn kt ys))) (Tr.leaf (R.s (s133_0 s rn rt xs kn kt ys n (IntKind.i64.wrap (i5 + 1)))))))))))))))))) (Tr.leaf (R.s (s133_0 s rn rt xs kn kt ys n (IntKind.i64.wrap (i5 + 1)))))))))))))))) (Tr.leaf (R.x (x133_0x1 s rn rt xs kn kt ys n i5)))) := by kernel_rfl
theorem k133_0x0 (dd : Nat) (s : Bys) (rn : OBo) (rt : Bool) (xs : LLC) (kn : OBo) (kt : Bool) (ys : LLC) : (p133 dd).fkx 0 (x133_0x0 s rn rt xs kn kt ys) = (Tr.leaf (R.out [V.c (C.bool false)] [])) := by kernel_rfl
theorem k133_0x1 (dd : Nat) (s : Bys) (rn : OBo) (rt : Bool) (xs : LLC) (kn : OBo) (kt : Bool) (ys : LLC) (n : Int) (i5 : Int) : (p133 dd).fkx 0 (x133_0x1 s rn rt xs kn kt ys n i5) = (Tr.leaf (R.out [V.c (C.bool true)] [])) := by kernel_rfl
theorem t133 (s : Bys) (rn : OBo) (rt : Bool) (xs : LLC) (kn : OBo) (kt : Bool) (ys : LLC) (n : Int) : (p133 dd).ft ([V.agg [V.c (C.str s), V.c (C.sl 5 rn rt xs), V.c (C.sl 3 kn kt ys)], V.i n]) ([]) = (Tr.br (decide (256 < (↑ys.length : Int))) (Tr.leaf (R.out [V.c (C.bool false)] [])) (Tr.ls 0 (s133_0 s rn rt xs kn kt ys n (0)))) := by kernel_rfl
def s77 : CSpec := fun a h => match a, h with
  | [.c (.sl 5 nl tt xs)], [] => some ([isRows xs], [V.b (right (toRows xs))], [])
  | _, _ => none
noncomputable abbrev p165 : Par := par E sh (ctOf [(77, s77), (133, s133 dd)]) 165 2 0
theorem t165 (s : Bys) (xs : LLC) (ys : LLC) (n : Int) : (p165 dd).ft ([V.agg [V.c (C.str s), V.c (C.sl 5 none false xs), V.c (C.sl 3 none false ys)], V.i n]) ([]) = (Tr.br (s == []) (Tr.leaf (R.out [V.c (C.bool false)] [])) (Tr.br (decide (n < (↑s.length : Int))) (Tr.leaf (R.out [V.c (C.bool false)] [])) (Tr.chk (isRows xs) (Tr.br (!right (toRows xs)) (Tr.leaf (R.out [V.c (C.bool false)] [])) (Tr.br ((↑xs.length : Int) == 0) (Tr.br (decide ((↑ys.length : Int) < 2)) (Tr.leaf (R.out [V.c (C.bool false)] [])) (Tr.chk (isRows xs) (Tr.chk (isL ys) (Tr.chk (decide (depL (decL ys) < dd)) (Tr.chk (decide (0 ≤ IntKind.i64.wrap (n - (↑s.length : Int)))) (Tr.chk (decide (IntKind.i64.wrap (n - (↑s.length : Int)) < 1000000)) (Tr.leaf (R.out [V.c (C.bool (okL (decL ys) (IntKind.i64.wrap (n - (↑s.length : Int))).toNat (-1)))] [])))))))) (Tr.chk (isRows xs) (Tr.chk (isL ys) (Tr.chk (decide (depL (decL ys) < dd)) (Tr.chk (decide (0 ≤ IntKind.i64.wrap (n - (↑s.length : Int)))) (Tr.chk (decide (IntKind.i64.wrap (n - (↑s.length : Int)) < 1000000)) (Tr.leaf (R.out [V.c (C.bool (okL (decL ys) (IntKind.i64.wrap (n - (↑s.length : Int))).toNat (-1)))] [])))))))))))) := by kernel_rfl
noncomputable abbrev p80 : Par := par E sh (ctOf [(133, s133 dd)]) 80 1 0
theorem t80 (s : Bys) (rn : OBo) (rt : Bool) (xs : LLC) (kn : OBo) (kt : Bool) (ys : LLC) : (p80 dd).ft ([V.agg [V.c (C.str s), V.c (C.sl 5 rn rt xs), V.c (C.sl 3 kn kt ys)]]) ([]) = (Tr.br (s == []) (Tr.br ((↑xs.length : Int) == 0) (Tr.chk (isRows xs) (Tr.chk (isL ys) (Tr.chk (decide (depL (decL ys) < dd)) (Tr.chk true (Tr.chk true (Tr.leaf (R.out [V.c (C.bool (okL (decL ys) (Int.toNat 24) (-1)))] []))))))) (Tr.leaf (R.out [V.c (C.bool false)] []))) (Tr.leaf (R.out [V.c (C.bool false)] []))) := by kernel_rfl
def s80 : CSpec := fun a h => match a, h with
  | [.agg [.c (.str s), .c (.sl 5 rn rt xs), .c (.sl 3 kn kt ys)]], [] => some ([isRows xs, isL ys], [V.b (okR (.node s (toRows xs) (decL ys)))], [])
  | _, _ => none
def ee (e : Ent) : List C := [.str e.1, .sl 5 none false (rows e.2)]
def ents (l : List Ent) : List (List C) := l.map ee
def pre (a : Bys) (l : List Ent) : List Ent := l.map fun e => (a ++ e.1, e.2)
def s83 : CSpec := fun a h => match a, h with
  | [.agg [.c (.str s), .c (.sl 5 rn rt xs), .c (.sl 3 kn kt ys)], .c (.str q)], [] => some ([isRows xs, isL ys, decide (depL (decL ys) < dd), decide (q.length + s.length ≤ 24), okL (decL ys) (24 - (q.length + s.length)) (-1), decide ((entT (.node s (toRows xs) (decL ys))).length < 4294967290), decide (rn = none ∧ rt = false ∨ xs = [])], [.c (.sl 2 none false (ents (pre q (entT (.node s (toRows xs) (decL ys))))))], [])
  | _, _ => none
noncomputable abbrev p83 : Par := par E sh (ctOf [(83, s83 dd)]) 83 2 0
abbrev s83_0 (s : Bys) (rn : OBo) (rt : Bool) (xs : LLC) (kn : OBo) (kt : Bool) (ys : LLC) (s5 : Bys) (n6 : Nat) (i7 : Int) (ys1 : LLC) : Fr × Hp := ([(2, V.ptr 0 0 0 0), (5, V.c (C.str s5)), (6, V.buf 1 0 0 n6), (7, V.c (C.int IntKind.i64 i7))], [O.box [V.c (C.str s), V.c (C.sl 5 rn rt xs), V.c (C.sl 3 kn kt ys)], O.mem 2 0 ys1])
noncomputable abbrev b83_0 : Code := loopAt (codeOf E (83)) 0
abbrev x83_0x0 (s : Bys) (rn : OBo) (rt : Bool) (xs : LLC) (kn : OBo) (kt : Bool) (ys : LLC) (s5 : Bys) (n6 : Nat) (i7 : Int) (ys1 : LLC) : Ex × Fr × Hp := (Ex.exit 0, [(2, V.ptr 0 0 0 0), (5, V.c (C.str s5)), (6, V.buf 1 0 0 n6), (7, V.c (C.int IntKind.i64 i7)), (27, V.c (C.bool false))], [O.box [V.c (C.str s), V.c (C.sl 5 rn rt xs), V.c (C.sl 3 kn kt ys)], O.mem 2 0 ys1])
theorem t83_0 (s : Bys) (rn : OBo) (rt : Bool) (xs : LLC) (kn : OBo) (kt : Bool) (ys : LLC) (s5 : Bys) (n6 : Nat) (i7 : Int) (ys1 : LLC) : (p83 dd).lts b83_0 (s83_0 s rn rt xs kn kt ys s5 n6 i7 ys1) = (Tr.br (decide (i7 < (↑ys.length : Int))) (Tr.chk (decide (0 ≤ i7)) (Tr.chk true (Tr.chk (decide (i7.toNat < ys.length)) (Tr.chk (shOk [Sk.str, Sk.sl 5, Sk.sl 3] (ys.getD i7.toNat [])) (Tr.chk (isRows ((ys.getD i7.toNat []).tail.headD C.pnil).xs) (Tr.chk (isL ((ys.getD i7.toNat []).tail.tail.headD C.pnil).xs) (Tr.chk (decide (depL (decL ((ys.getD i7.toNat []).tail.tail.headD C.pnil).xs) < dd)) (Tr.chk (decide (s5.length + ((ys.getD i7.toNat []).headD C.pnil).st.length ≤ 24)) (Tr.chk (okL (decL ((ys.getD i7.toNat []).tail.tail.headD C.pnil).xs) (24 - (s5.length + ((ys.getD i7.toNat []).headD C.pnil).st.length)) (-1)) (Tr.chk (decide ((entT (Nd.node ((ys.getD i7.toNat []).headD C.pnil).st (toRows ((ys.getD i7.toNat []).tail.headD C.pnil).xs) (decL ((ys.getD i7.toNat []).tail.tail.headD C.pnil).xs))).length < 4294967290)) (Tr.chk true (Tr.chk true (Tr.chk true (Tr.chk (decide (n6 + (ents (pre s5 (entT (Nd.node ((ys.getD i7.toNat []).headD C.pnil).st (toRows ((ys.getD i7.toNat []).tail.headD C.pnil).xs) (decL ((ys.getD i7.toNat []).tail.tail.headD C.pnil).xs))))).length < 4294967296)) (Tr.chk true (Tr.leaf (R.s (s83_0 s rn rt xs kn kt ys s5 (n6 + (ents (pre s5 (entT (Nd.node ((ys.getD i7.toNat []).headD C.pnil).st (toRows ((ys.getD i7.toNat []).tail.headD C.pnil).xs) (decL ((ys.getD i7.toNat []).tail.tail.headD C.pnil).xs))))).length) (IntKind.i64.wrap (i7 + 1)) (List.take n6 ys1 ++ ents (pre s5 (entT (Nd.node ((ys.getD i7.toNat []).headD C.pnil).st (toRows ((ys.getD i7.toNat []).tail.headD C.pnil).xs) (decL ((ys.getD i7.toNat []).tail.tail.headD C.pnil).xs))))))))))))))))))))))) (Tr.leaf (R.x (x83_0x0 s rn rt xs kn kt ys s5 n6 i7 ys1)))) := by kernel_rfl
theorem k83_0x0 (dd : Nat) (s : Bys) (rn : OBo) (rt : Bool) (xs : LLC) (kn : OBo) (kt : Bool) (ys : LLC) (s5 : Bys) (n6 : Nat) (i7 : Int) (ys1 : LLC) : (p83 dd).fkx 0 (x83_0x0 s rn rt xs kn kt ys s5 n6 i7 ys1) = (Tr.leaf (R.out [V.c (C.sl 2 none false (List.take n6 ys1))] [])) := by kernel_rfl
theorem t83 (s : Bys) (rn : OBo) (rt : Bool) (xs : LLC) (kn : OBo) (kt : Bool) (ys : LLC) (q : Bys) : (p83 dd).ft ([V.agg [V.c (C.str s), V.c (C.sl 5 rn rt xs), V.c (C.sl 3 kn kt ys)], V.c (C.str q)]) ([]) = (Tr.chk (decide (q.length + s.length < 4294967296)) (Tr.br (decide (0 < (↑xs.length : Int))) (Tr.chk true (Tr.chk true (Tr.chk true (Tr.chk true (Tr.ls 0 (s83_0 s rn rt xs kn kt ys (q ++ s) (1) (0) ([[C.str (q ++ s), C.sl 5 rn rt xs]]))))))) (Tr.ls 0 (s83_0 s rn rt xs kn kt ys (q ++ s) (0) (0) ([]))))) := by kernel_rfl
noncomputable abbrev p35 : Par := par E sh (ctOf [(80, s80), (83, s83 dd)]) 35 1 0
theorem t35 (s : Bys) (rn : OBo) (rt : Bool) (xs : LLC) (kn : OBo) (kt : Bool) (ys : LLC) : (p35 dd).ft ([V.agg [V.c (C.str s), V.c (C.sl 5 rn rt xs), V.c (C.sl 3 kn kt ys)]]) ([]) = (Tr.chk (isRows xs) (Tr.chk (isL ys) (Tr.br (!okR (Nd.node s (toRows xs) (decL ys))) (Tr.leaf (R.out [V.c (C.sl 2 none false [])] [])) (Tr.chk (isRows xs) (Tr.chk (isL ys) (Tr.chk (decide (depL (decL ys) < dd)) (Tr.chk (decide (0 + s.length ≤ 24)) (Tr.chk (okL (decL ys) (24 - (0 + s.length)) (-1)) (Tr.chk (decide ((entT (Nd.node s (toRows xs) (decL ys))).length < 4294967290)) (Tr.chk (decide (rn = none ∧ rt = false ∨ xs = [])) (Tr.leaf (R.out [V.c (C.sl 2 none false (ents (pre [] (entT (Nd.node s (toRows xs) (decL ys))))))] [])))))))))))) := by kernel_rfl
def s35 : CSpec := fun a h => match a, h with
  | [.agg [.c (.str s), .c (.sl 5 rn rt xs), .c (.sl 3 kn kt ys)]], [] => some ([isRows xs, isL ys, decide ((entT (.node s (toRows xs) (decL ys))).length < 4294967290)], [.c (.sl 2 none false (ents (if okR (.node s (toRows xs) (decL ys)) = true then entT (.node s (toRows xs) (decL ys)) else [])))], [])
  | _, _ => none
def shortR (l : List Row) : Bool := decide (l.length ≤ 70) && l.all fun r => decide (r.v.s.length ≤ 100)
mutual
def lensT : Nd → Bool
  | .node lab rs kids => decide (lab.length ≤ 9223372036854775807) && decide (rs.length ≤ 9223372036854775807) && decide (kids.length ≤ 9223372036854775807) && lensL kids
def lensL : List Nd → Bool
  | [] => true
  | t :: r => lensT t && lensL r
end
mutual
def leftT : Nd → Int → Int → Int
  | .node lab rs kids, n, deep => if deep < 1 ∨ n - 1 - ((lab.length / 50 : Nat) : Int) < 1 ∨ shortR rs = false then 0 else leftL kids (n - 1 - ((lab.length / 50 : Nat) : Int)) (deep - 1)
def leftL : List Nd → Int → Int → Int
  | [], n, _ => n
  | t :: r, n, deep => if 0 < n then leftL r (leftT t n deep) deep else n
end
end Go.Proofs.YtgaabjmbnomimaaDoor
namespace Go.Proofs.YtgaabjmbnomimaaDoor
open Go Go.Ev
theorem okR_node (s : Bys) (rs : List Row) (ks : List Nd) : okR (.node s rs ks) = (decide (s = []) && decide (rs = []) && okL ks 24 (-1)) := rfl
theorem f28 (s : Bys) (rn : OBo) (rt : Bool) (rs : List Row) (kn : OBo) (kt : Bool) (ks : List Nd) : call E 28 [.agg [.c (.str s), .c (.sl 5 rn rt (rows rs)), .c (.sl 3 kn kt (encL ks))]] [] = some ([V.i (checkT (.node s rs ks))], []) := by
  have hct : (ctOf [(69, s69 (depL ks + 1))]).ok E := ctOf_cons (s69_ok _) ctOf_nil
  refine call_of (E := E) (sh := sh) (ct := ctOf [(69, s69 (depL ks + 1))]) (na := 1) (m := 0) hct rfl rfl rfl rfl rfl rfl ?_
  show (p28 (depL ks + 1)).fd ((p28 (depL ks + 1)).ft _ _) = _
  rw [t28]
  simp only [nd_ok, nd_lab, nd_rows, nd_kids, encL_length, isL_enc, decL_enc, wrap_hd, hd_pos, ld_br, ld_chk', ld_leaf, fd_br, fd_chk', fd_leaf, decide_true, decide_eq_true_eq, if_true, Int.toNat_natCast, Int.natCast_nonneg, Int.ofNat_lt, Int.ofNat_le, Bool.false_eq_true, if_false, bne_iff_ne, beq_iff_eq, ne_eq, not_true_eq_false, not_false_eq_true, Bool.not_eq_true', decide_eq_false_iff_not, reduceCtorEq, rows_length, pcs_length, er_ok, er_ok', ep_ok, ep_ok', dr_er, dp_ep, isRows_rows, isPcs_pcs, toRows_rows, toPcs_pcs, rows_take, rows_drop, pcs_take, pcs_drop, rows_append, pcs_append, ints_length, isInts_ints, toInts_ints, ei_i, ei_ok, mk_headD, ints_take, ints_drop, ints_append, ints_snoc, ints_snoc', List.take_length, Nat.zero_add, Nat.le_refl, er_a, er_b, er_k, er_n, er_s, er_v, ep_a, ep_b, ep_hk, ep_hn, ep_hs, ep_wk, ep_wn, ep_ws, rows_length, show depL ks < depL ks + 1 by omega, checkT, okR_node]
  by_cases c1 : s = []
  · by_cases c2 : rs = []
    · have e24 : Int.toNat 24 = 24 := rfl
      simp only [c1, c2, List.length_nil, Int.natCast_zero, Int.lt_irrefl, if_false, not_true_eq_false, decide_true, Bool.true_and, e24]
      cases okL ks 24 (-1) <;> simp
    · have h : (0 : Int) < rs.length := by have := List.length_pos_iff.2 c2; omega
      simp only [c1, c2, h, not_true_eq_false, if_false, if_true, decide_false, Bool.and_false, Bool.false_and, Bool.false_eq_true]
      simp
  · simp [c1]
theorem s28_ok : CSpecOk E 28 s28 := by
  intro a h cs vals h' he hc
  unfold s28 at he
  split at he <;> simp only [Option.some.injEq, Prod.mk.injEq, reduceCtorEq] at he
  rename_i s rn rt xs kn kt ys
  obtain ⟨rfl, rfl, rfl⟩ := he
  simp only [allT, Bool.and_true, Bool.and_eq_true, decide_eq_true_eq] at hc
  obtain ⟨h1, h2⟩ := hc
  obtain ⟨rs, rfl⟩ := rows_ex h1
  obtain ⟨ks, rfl⟩ := isL_ex h2
  simp only [toRows_rows, decL_enc]
  exact f28 s rn rt rs kn kt ks
theorem right_len4 {l : List Row} (h : right l = true) : l.length ≤ 64 := by
  simp only [right, Bool.and_eq_true, decide_eq_true_eq] at h; exact h.1
theorem okL_labs {l : List Nd} {n : Nat} {f : Int} (h : okL l n f = true) : labsOk l = true :=
  List.all_eq_true.2 fun t ht => by simpa using (okT_lab (okL_mem h t ht).1).1
theorem okT_node (s : Bys) (rs : List Row) (ks : List Nd) (n : Nat) : okT (.node s rs ks) n = (decide (s ≠ []) && decide (s.length ≤ n) && right rs && (decide (rs ≠ []) || decide (2 ≤ ks.length)) && okL ks (n - s.length) (-1)) := okT_eq _ _
theorem s77_ok : CSpecOk E 77 s77 := by
  intro a h cs vals h' he hc
  unfold s77 at he
  split at he <;> simp only [Option.some.injEq, Prod.mk.injEq, reduceCtorEq] at he
  rename_i nl tt xs
  obtain ⟨rfl, rfl, rfl⟩ := he
  simp only [allT, Bool.and_true] at hc
  obtain ⟨l, rfl⟩ := rows_ex hc
  rw [toRows_rows]
  exact f77 l nl tt
theorem f165 (d : Nat) (ih : CSpecOk E 133 (s133 d)) (s : Bys) (rs : List Row) (ks : List Nd) (n : Int) (hd : depL ks < d) (h0 : 0 ≤ n) (h1 : n < 1000000) : call E 165 [.agg [.c (.str s), .c (.sl 5 none false (rows rs)), .c (.sl 3 none false (encL ks))], V.i n] [] = some ([V.b (okT (.node s rs ks) n.toNat)], []) := by
  have hct : (ctOf [(77, s77), (133, s133 d)]).ok E := ctOf_cons s77_ok (ctOf_cons ih ctOf_nil)
  refine call_of (E := E) (sh := sh) (ct := ctOf [(77, s77), (133, s133 d)]) (na := 2) (m := 0) hct rfl rfl rfl rfl rfl rfl ?_
  show (p165 d).fd ((p165 d).ft _ _) = _
  rw [t165]
  simp only [nd_ok, nd_lab, nd_rows, nd_kids, encL_length, isL_enc, decL_enc, wrap_hd, hd_pos, ld_br, ld_chk', ld_leaf, fd_br, fd_chk', fd_leaf, decide_true, decide_eq_true_eq, if_true, Int.toNat_natCast, Int.natCast_nonneg, Int.ofNat_lt, Int.ofNat_le, Bool.false_eq_true, if_false, bne_iff_ne, beq_iff_eq, ne_eq, not_true_eq_false, not_false_eq_true, Bool.not_eq_true', decide_eq_false_iff_not, reduceCtorEq, rows_length, pcs_length, er_ok, er_ok', ep_ok, ep_ok', dr_er, dp_ep, isRows_rows, isPcs_pcs, toRows_rows, toPcs_pcs, rows_take, rows_drop, pcs_take, pcs_drop, rows_append, pcs_append, ints_length, isInts_ints, toInts_ints, ei_i, ei_ok, mk_headD, ints_take, ints_drop, ints_append, ints_snoc, ints_snoc', List.take_length, Nat.zero_add, Nat.le_refl, er_a, er_b, er_k, er_n, er_s, er_v, ep_a, ep_b, ep_hk, ep_hn, ep_hs, ep_wk, ep_wn, ep_ws, rows_length, nil_len, hd, okT_node]
  by_cases c1 : s = []
  · simp [c1]
  rw [if_neg c1]
  by_cases c2 : n < s.length
  · have : ¬ s.length ≤ n.toNat := by omega
    simp [c2, this]
  rw [if_neg c2]
  have c2' : s.length ≤ n.toNat := by omega
  by_cases c3 : right rs = false
  · simp [c3]
  rw [if_neg c3]
  rw [Bool.not_eq_false] at c3
  have w1 : IntKind.wrap .i64 (n - (s.length : Int)) = ((n.toNat - s.length : Nat) : Int) := by rw [wrap_same (by omega) (by omega)]; omega
  have w2 : ((n.toNat - s.length : Nat) : Int) < 1000000 := by omega
  simp only [w1, w2, Int.natCast_nonneg, Int.toNat_natCast, if_true]
  by_cases c5 : rs = []
  · by_cases c6 : (ks.length : Int) < 2
    · have : ¬ 2 ≤ ks.length := by omega
      simp [c5, c6, this]
    · have : 2 ≤ ks.length := by omega
      rw [if_pos c5, if_neg c6]
      simp [c1, c2', c3, this]
  · rw [if_neg c5]
    simp [c1, c2', c3, c5]
def prevK (l : List Nd) (k : Nat) : Int := if k = 0 then -1 else hdB (l.getD (k - 1) default).lab
theorem prevK_succ {l : List Nd} {k : Nat} (h : k < l.length) : prevK l (k + 1) = hdB l[k].lab := by simp only [prevK, Nat.add_sub_cancel]; rw [if_neg (by omega), getD_at' h]
theorem nd_node (t : Nd) : Nd.node t.lab t.rows t.kids = t := Nd.eta t
theorem byte_lab (s : Bys) : (((s.getD (Int.toNat 0) 0).toNat : Nat) : Int) = hdB s := hd_getD s
theorem f133 (d : Nat) (ih : CSpecOk E 165 (s165 d)) (s : Bys) (rn : OBo) (rt : Bool) (rs : List Row) (kn : OBo) (kt : Bool) (ks : List Nd) (n : Int) (hd : depL ks < d) (h0 : 0 ≤ n) (h1 : n < 1000000) : call E 133 [.agg [.c (.str s), .c (.sl 5 rn rt (rows rs)), .c (.sl 3 kn kt (encL ks))], V.i n] [] = some ([V.b (okL ks n.toNat (-1))], []) := by
  have hct : (ctOf [(165, s165 d)]).ok E := ctOf_cons ih ctOf_nil
  refine call_of (E := E) (sh := sh) (ct := ctOf [(165, s165 d)]) (na := 2) (m := 0) hct rfl rfl rfl rfl rfl rfl ?_
  show (p133 d).fd ((p133 d).ft _ _) = _
  rw [t133]
  simp only [nd_ok, nd_lab, nd_rows, nd_kids, encL_length, isL_enc, decL_enc, wrap_hd, hd_pos, ld_br, ld_chk', ld_leaf, fd_br, fd_chk', fd_leaf, decide_true, decide_eq_true_eq, if_true, Int.toNat_natCast, Int.natCast_nonneg, Int.ofNat_lt, Int.ofNat_le, Bool.false_eq_true, if_false, bne_iff_ne, beq_iff_eq, ne_eq, not_true_eq_false, not_false_eq_true, Bool.not_eq_true', decide_eq_false_iff_not, reduceCtorEq, rows_length, pcs_length, er_ok, er_ok', ep_ok, ep_ok', dr_er, dp_ep, isRows_rows, isPcs_pcs, toRows_rows, toPcs_pcs, rows_take, rows_drop, pcs_take, pcs_drop, rows_append, pcs_append, ints_length, isInts_ints, toInts_ints, ei_i, ei_ok, mk_headD, ints_take, ints_drop, ints_append, ints_snoc, ints_snoc', List.take_length, Nat.zero_add, Nat.le_refl, er_a, er_b, er_k, er_n, er_s, er_v, ep_a, ep_b, ep_hk, ep_hn, ep_hs, ep_wk, ep_wn, ep_ws]
  by_cases c0 : (256 : Int) < ks.length
  · rw [if_pos c0]
    have : okL ks n.toNat (-1) = false := by
      cases h : okL ks n.toNat (-1) with
      | false => rfl
      | true => have := okL_len h (by omega); omega
    rw [this]
  rw [if_neg c0]
  refine fd_post hct (by kernel_rfl) rfl (list_post (p := p133 d) hct (b := b133_0) ks.length (fun k (_ : Unit) => s133_0 s rn rt (rows rs) kn kt (encL ks) n k) (fun k _ => okL (ks.drop k) n.toNat (prevK ks k) = okL ks n.toNat (-1) ∧ (0 < k → (ks.getD (k - 1) default).lab ≠ [])) _ ?_ ?_ 0 (Nat.zero_le _) () ⟨rfl, fun h => absurd h (by omega)⟩)
  · rintro k _ hk ⟨hi, hp⟩
    rw [List.drop_eq_getElem_cons hk, okL_cons] at hi
    have hkid : depL ks[k].kids + 1 < d + 1 := by have := depL_kid (List.getElem_mem hk); omega
    have hkid2 : depL ks[k].kids + 1 < d := by have := depL_kid (List.getElem_mem hk); omega
    have ex0 : okL ks n.toNat (-1) = false → (p133 d).fd ((p133 d).fkx 0 (x133_0x0 s rn rt (rows rs) kn kt (encL ks))) = some (.out [V.b (okL ks n.toNat (-1))] []) := fun h => by rw [k133_0x0, fd_leaf, h]
    rw [t133_0]
    simp only [nd_ok, nd_lab, nd_rows, nd_kids, encL_length, isL_enc, decL_enc, wrap_hd, hd_pos, ld_br, ld_chk', ld_leaf, fd_br, fd_chk', fd_leaf, decide_true, decide_eq_true_eq, if_true, Int.toNat_natCast, Int.natCast_nonneg, Int.ofNat_lt, Int.ofNat_le, Bool.false_eq_true, if_false, bne_iff_ne, beq_iff_eq, ne_eq, not_true_eq_false, not_false_eq_true, Bool.not_eq_true', decide_eq_false_iff_not, reduceCtorEq, rows_length, pcs_length, er_ok, er_ok', ep_ok, ep_ok', dr_er, dp_ep, isRows_rows, isPcs_pcs, toRows_rows, toPcs_pcs, rows_take, rows_drop, pcs_take, pcs_drop, rows_append, pcs_append, ints_length, isInts_ints, toInts_ints, ei_i, ei_ok, mk_headD, ints_take, ints_drop, ints_append, ints_snoc, ints_snoc', List.take_length, Nat.zero_add, Nat.le_refl, er_a, er_b, er_k, er_n, er_s, er_v, ep_a, ep_b, ep_hk, ep_hn, ep_hs, ep_wk, ep_wn, ep_ws, hk, encL_getD hk, wrap_succ (show k < 9223372036854775807 by omega), nd_node, hkid2, h0, h1]
    by_cases c1 : okT ks[k] n.toNat = false
    · exact .inr ⟨x133_0x0 s rn rt (rows rs) kn kt (encL ks), by simp, ex0 (by rw [← hi, c1]; simp), by simp only [c1, if_true]⟩
    rw [Bool.not_eq_false] at c1
    have hl := (okT_lab c1).1
    rw [c1, Bool.true_and] at hi
    cases k with
    | zero =>
      have : decide (prevK ks 0 < hdB ks[0].lab) = true := by have := hdB_lt ks[0].lab; simp [prevK]; omega
      rw [this, Bool.true_and] at hi
      exact .inl ⟨(), ⟨by rw [prevK_succ hk]; exact hi, fun _ => by rw [getD_at' (by simpa using hk)]; simpa using hl⟩, by simp [c1]⟩
    | succ k =>
      have hk' : k < ks.length := by omega
      have hp' := hp (by omega)
      rw [Nat.add_sub_cancel, getD_at' hk'] at hp'
      rw [prevK_succ hk'] at hi
      simp only [c1, Bool.true_eq_false, if_false, wrap_pred (show 0 < k + 1 by omega) (show k + 1 < 9223372036854775807 by omega), Nat.add_sub_cancel, nd_ok, nd_lab, nd_rows, nd_kids, encL_length, isL_enc, decL_enc, wrap_hd, hd_pos, ld_br, ld_chk', ld_leaf, fd_br, fd_chk', fd_leaf, decide_true, decide_eq_true_eq, if_true, Int.toNat_natCast, Int.natCast_nonneg, Int.ofNat_lt, Int.ofNat_le, Bool.false_eq_true, if_false, bne_iff_ne, beq_iff_eq, ne_eq, not_true_eq_false, not_false_eq_true, Bool.not_eq_true', decide_eq_false_iff_not, reduceCtorEq, rows_length, pcs_length, er_ok, er_ok', ep_ok, ep_ok', dr_er, dp_ep, isRows_rows, isPcs_pcs, toRows_rows, toPcs_pcs, rows_take, rows_drop, pcs_take, pcs_drop, rows_append, pcs_append, ints_length, isInts_ints, toInts_ints, ei_i, ei_ok, mk_headD, ints_take, ints_drop, ints_append, ints_snoc, ints_snoc', List.take_length, Nat.zero_add, Nat.le_refl, er_a, er_b, er_k, er_n, er_s, er_v, ep_a, ep_b, ep_hk, ep_hn, ep_hs, ep_wk, ep_wn, ep_ws, hk', encL_getD hk', show (0 : Int) < ((k + 1 : Nat) : Int) by omega, hl, hp', byte_lab]
      have z1 := byte_lab ks[k + 1].lab
      have z2 := byte_lab ks[k].lab
      by_cases c2 : (ks[k + 1].lab.getD (Int.toNat 0) 0).toNat ≤ (ks[k].lab.getD (Int.toNat 0) 0).toNat
      · exact .inr ⟨x133_0x0 s rn rt (rows rs) kn kt (encL ks), by simp, ex0 (by rw [← hi]; simp [show ¬ hdB ks[k].lab < hdB ks[k + 1].lab by omega]), by rw [if_pos c2]⟩
      · have : decide (hdB ks[k].lab < hdB ks[k + 1].lab) = true := by simp; omega
        rw [this, Bool.true_and] at hi
        exact .inl ⟨(), ⟨by rw [prevK_succ hk]; exact hi, fun _ => by show (ks.getD (k + 1) default).lab ≠ []; rw [getD_at' hk]; exact hl⟩, by rw [if_neg c2]⟩
  · rintro _ ⟨hi, hp⟩
    rw [List.drop_length, okL] at hi
    rw [t133_0]
    exact ⟨x133_0x1 s rn rt (rows rs) kn kt (encL ks) n ks.length, by simp, by rw [k133_0x1, fd_leaf, ← hi], by simp only [nd_ok, nd_lab, nd_rows, nd_kids, encL_length, isL_enc, decL_enc, wrap_hd, hd_pos, ld_br, ld_chk', ld_leaf, fd_br, fd_chk', fd_leaf, decide_true, decide_eq_true_eq, if_true, Int.toNat_natCast, Int.natCast_nonneg, Int.ofNat_lt, Int.ofNat_le, Bool.false_eq_true, if_false, bne_iff_ne, beq_iff_eq, ne_eq, not_true_eq_false, not_false_eq_true, Bool.not_eq_true', decide_eq_false_iff_not, reduceCtorEq, rows_length, pcs_length, er_ok, er_ok', ep_ok, ep_ok', dr_er, dp_ep, isRows_rows, isPcs_pcs, toRows_rows, toPcs_pcs, rows_take, rows_drop, pcs_take, pcs_drop, rows_append, pcs_append, ints_length, isInts_ints, toInts_ints, ei_i, ei_ok, mk_headD, ints_take, ints_drop, ints_append, ints_snoc, ints_snoc', List.take_length, Nat.zero_add, Nat.le_refl, er_a, er_b, er_k, er_n, er_s, er_v, ep_a, ep_b, ep_hk, ep_hn, ep_hs, ep_wk, ep_wn, ep_ws, Nat.lt_irrefl]⟩
theorem s165_of (d : Nat) (ih : CSpecOk E 133 (s133 d)) : CSpecOk E 165 (s165 (d + 1)) := by
  intro a h cs vals h' he hc
  unfold s165 at he
  split at he <;> simp only [Option.some.injEq, Prod.mk.injEq, reduceCtorEq] at he
  rename_i s xs ys n
  obtain ⟨rfl, rfl, rfl⟩ := he
  simp only [allT, Bool.and_true, Bool.and_eq_true, decide_eq_true_eq] at hc
  obtain ⟨h1, h2, h3, h4, h5⟩ := hc
  obtain ⟨rs, rfl⟩ := rows_ex h1
  obtain ⟨ks, rfl⟩ := isL_ex h2
  simp only [toRows_rows, decL_enc] at *
  exact f165 d ih s rs ks n (by omega) h4 h5
theorem s133_of (d : Nat) (ih : CSpecOk E 165 (s165 d)) : CSpecOk E 133 (s133 d) := by
  intro a h cs vals h' he hc
  unfold s133 at he
  split at he <;> simp only [Option.some.injEq, Prod.mk.injEq, reduceCtorEq] at he
  rename_i s rn rt xs kn kt ys n
  obtain ⟨rfl, rfl, rfl⟩ := he
  simp only [allT, Bool.and_true, Bool.and_eq_true, decide_eq_true_eq] at hc
  obtain ⟨h1, h2, h3, h4, h5⟩ := hc
  obtain ⟨rs, rfl⟩ := rows_ex h1
  obtain ⟨ks, rfl⟩ := isL_ex h2
  simp only [toRows_rows, decL_enc] at *
  exact f133 d ih s rn rt rs kn kt ks n h3 h4 h5
theorem s165_ok : ∀ d, CSpecOk E 165 (s165 d)
  | 0 => by
    intro a h cs vals h' he hc
    unfold s165 at he
    split at he <;> simp only [Option.some.injEq, Prod.mk.injEq, reduceCtorEq] at he
    obtain ⟨rfl, rfl, rfl⟩ := he
    simp [allT] at hc
  | d + 1 => s165_of d (s133_of d (s165_ok d))
theorem s133_ok (d : Nat) : CSpecOk E 133 (s133 d) := s133_of d (s165_ok d)
theorem f80 (s : Bys) (rn : OBo) (rt : Bool) (rs : List Row) (kn : OBo) (kt : Bool) (ks : List Nd) : call E 80 [.agg [.c (.str s), .c (.sl 5 rn rt (rows rs)), .c (.sl 3 kn kt (encL ks))]] [] = some ([V.b (okR (.node s rs ks))], []) := by
  have hct : (ctOf [(133, s133 (depL ks + 1))]).ok E := ctOf_cons (s133_ok _) ctOf_nil
  refine call_of (E := E) (sh := sh) (ct := ctOf [(133, s133 (depL ks + 1))]) (na := 1) (m := 0) hct rfl rfl rfl rfl rfl rfl ?_
  show (p80 (depL ks + 1)).fd ((p80 (depL ks + 1)).ft _ _) = _
  rw [t80]
  simp only [nd_ok, nd_lab, nd_rows, nd_kids, encL_length, isL_enc, decL_enc, wrap_hd, hd_pos, ld_br, ld_chk', ld_leaf, fd_br, fd_chk', fd_leaf, decide_true, decide_eq_true_eq, if_true, Int.toNat_natCast, Int.natCast_nonneg, Int.ofNat_lt, Int.ofNat_le, Bool.false_eq_true, if_false, bne_iff_ne, beq_iff_eq, ne_eq, not_true_eq_false, not_false_eq_true, Bool.not_eq_true', decide_eq_false_iff_not, reduceCtorEq, rows_length, pcs_length, er_ok, er_ok', ep_ok, ep_ok', dr_er, dp_ep, isRows_rows, isPcs_pcs, toRows_rows, toPcs_pcs, rows_take, rows_drop, pcs_take, pcs_drop, rows_append, pcs_append, ints_length, isInts_ints, toInts_ints, ei_i, ei_ok, mk_headD, ints_take, ints_drop, ints_append, ints_snoc, ints_snoc', List.take_length, Nat.zero_add, Nat.le_refl, er_a, er_b, er_k, er_n, er_s, er_v, ep_a, ep_b, ep_hk, ep_hn, ep_hs, ep_wk, ep_wn, ep_ws, rows_length, nil_len, show depL ks < depL ks + 1 by omega, okR_node]
  have e24 : Int.toNat 24 = 24 := rfl
  by_cases c1 : s = []
  · by_cases c2 : rs = []
    · simp [c1, c2, e24]
    · simp [c1, c2]
  · simp [c1]
theorem s80_ok : CSpecOk E 80 s80 := by
  intro a h cs vals h' he hc
  unfold s80 at he
  split at he <;> simp only [Option.some.injEq, Prod.mk.injEq, reduceCtorEq] at he
  rename_i s rn rt xs kn kt ys
  obtain ⟨rfl, rfl, rfl⟩ := he
  simp only [allT, Bool.and_true, Bool.and_eq_true, decide_eq_true_eq] at hc
  obtain ⟨h1, h2⟩ := hc
  obtain ⟨rs, rfl⟩ := rows_ex h1
  obtain ⟨ks, rfl⟩ := isL_ex h2
  simp only [toRows_rows, decL_enc]
  exact f80 s rn rt rs kn kt ks
end Go.Proofs.YtgaabjmbnomimaaDoor
namespace Go.Proofs.YtgaabjmbnomimaaDoor
open Go Go.Ev
theorem pre_pre (a b : Bys) (l : List Ent) : pre a (pre b l) = pre (a ++ b) l := by simp [pre, Function.comp_def]
theorem pre_app (a : Bys) (l m : List Ent) : pre a (l ++ m) = pre a l ++ pre a m := by simp [pre]
@[simp] theorem pre_length (a : Bys) (l : List Ent) : (pre a l).length = l.length := by simp [pre]
theorem pre_nil (l : List Ent) : pre [] l = l := by simp [pre]
@[simp] theorem ents_length (l : List Ent) : (ents l).length = l.length := by simp [ents]
theorem ents_app (l m : List Ent) : ents l ++ ents m = ents (l ++ m) := by simp [ents]
theorem entL_app (l m : List Nd) : entL (l ++ m) = entL l ++ entL m := by
  induction l with
  | nil => rfl
  | cons t r ih => rw [List.cons_append, entL, entL, ih, List.append_assoc]
theorem entL_take {l : List Nd} {k : Nat} (h : k < l.length) : entL (l.take (k + 1)) = entL (l.take k) ++ entT l[k] := by
  rw [List.take_succ, List.getElem?_eq_getElem h, entL_app]; simp [entL]
theorem entL_take_le (l : List Nd) (k : Nat) : (entL (l.take k)).length ≤ (entL l).length := by
  conv => rhs; rw [← List.take_append_drop k l, entL_app, List.length_append]
  omega
theorem entT_mem_len : ∀ {l : List Nd} {t : Nd}, t ∈ l → (entT t).length ≤ (entL l).length
  | x :: r, t, h => by
    rw [entL, List.length_append]
    rcases List.mem_cons.1 h with rfl | h
    · omega
    · have := entT_mem_len h; omega
def ownE (q : Bys) (rs : List Row) : List Ent := if rs = [] then [] else [(q, rs)]
theorem entT_node (q s : Bys) (rs : List Row) (ks : List Nd) : pre q (entT (.node s rs ks)) = ownE (q ++ s) rs ++ pre (q ++ s) (entL ks) := by
  have e : entT (.node s rs ks) = ownE s rs ++ pre s (entL ks) := by rw [entT_eq]; rfl
  rw [e, pre_app, pre_pre]
  congr 1
  unfold ownE
  split <;> rfl
theorem f83 (d : Nat) (ih : CSpecOk E 83 (s83 d)) (s : Bys) (rn : OBo) (rt : Bool) (rs : List Row) (kn : OBo) (kt : Bool) (ks : List Nd) (q : Bys) (hd : depL ks < d + 1) (hq : q.length + s.length ≤ 24) (hok : okL ks (24 - (q.length + s.length)) (-1) = true) (hn : (entT (.node s rs ks)).length < 4294967290) (hf : rn = none ∧ rt = false ∨ rs = []) :
    call E 83 [.agg [.c (.str s), .c (.sl 5 rn rt (rows rs)), .c (.sl 3 kn kt (encL ks))], .c (.str q)] [] = some ([.c (.sl 2 none false (ents (pre q (entT (.node s rs ks)))))], []) := by
  have hct : (ctOf [(83, s83 d)]).ok E := ctOf_cons ih ctOf_nil
  have hlen : (ownE (q ++ s) rs ++ pre (q ++ s) (entL ks)).length < 4294967290 := by rw [← entT_node, pre_length]; exact hn
  refine call_of (E := E) (sh := sh) (ct := ctOf [(83, s83 d)]) (na := 2) (m := 0) hct rfl rfl rfl rfl rfl rfl ?_
  show (p83 d).fd ((p83 d).ft _ _) = _
  rw [t83, entT_node]
  simp only [nd_ok, nd_lab, nd_rows, nd_kids, encL_length, isL_enc, decL_enc, wrap_hd, hd_pos, ld_br, ld_chk', ld_leaf, fd_br, fd_chk', fd_leaf, decide_true, decide_eq_true_eq, if_true, Int.toNat_natCast, Int.natCast_nonneg, Int.ofNat_lt, Int.ofNat_le, Bool.false_eq_true, if_false, bne_iff_ne, beq_iff_eq, ne_eq, not_true_eq_false, not_false_eq_true, Bool.not_eq_true', decide_eq_false_iff_not, reduceCtorEq, rows_length, pcs_length, er_ok, er_ok', ep_ok, ep_ok', dr_er, dp_ep, isRows_rows, isPcs_pcs, toRows_rows, toPcs_pcs, rows_take, rows_drop, pcs_take, pcs_drop, rows_append, pcs_append, ints_length, isInts_ints, toInts_ints, ei_i, ei_ok, mk_headD, ints_take, ints_drop, ints_append, ints_snoc, ints_snoc', List.take_length, Nat.zero_add, Nat.le_refl, er_a, er_b, er_k, er_n, er_s, er_v, ep_a, ep_b, ep_hk, ep_hn, ep_hs, ep_wk, ep_wn, ep_ws, rows_length, show q.length + s.length < 4294967296 by omega]
  have key : ∀ s0, s0 = s83_0 s rn rt (rows rs) kn kt (encL ks) (q ++ s) (ownE (q ++ s) rs).length 0 (ents (ownE (q ++ s) rs)) → (p83 d).fd (Tr.ls 0 s0) = some (R.out [.c (.sl 2 none false (ents (ownE (q ++ s) rs ++ pre (q ++ s) (entL ks))))] []) := by
    rintro _ rfl
    refine fd_post hct (by kernel_rfl) rfl (list_post (p := p83 d) hct (b := b83_0) ks.length (fun k (acc : List Ent) => s83_0 s rn rt (rows rs) kn kt (encL ks) (q ++ s) acc.length k (ents acc)) (fun k acc => acc = ownE (q ++ s) rs ++ pre (q ++ s) (entL (ks.take k))) _ ?_ ?_ 0 (Nat.zero_le _) (ownE (q ++ s) rs) (by simp [entL, pre]))
    · rintro k acc hk hacc
      have hT := okL_mem hok ks[k] (List.getElem_mem hk)
      have hl := okT_lab hT.1
      have hkid : depL ks[k].kids < d := by have := depL_kid (List.getElem_mem hk); omega
      have hkl := okL_len hok (by omega)
      have h1 : q.length + s.length + ks[k].lab.length ≤ 24 := by omega
      have h2 : okL ks[k].kids (24 - (q.length + s.length + ks[k].lab.length)) (-1) = true := by
        have := hl.2.2; rwa [Nat.sub_sub] at this
      have h3 : (entT ks[k]).length < 4294967290 := by
        have := entT_mem_len (List.getElem_mem hk); rw [List.length_append, pre_length] at hlen; omega
      have hnx : acc ++ pre (q ++ s) (entT ks[k]) = ownE (q ++ s) rs ++ pre (q ++ s) (entL (ks.take (k + 1))) := by rw [hacc, entL_take hk, pre_app, List.append_assoc]
      have h4 : acc.length + (entT ks[k]).length < 4294967296 := by
        have := congrArg List.length hnx
        have h5 := entL_take_le ks (k + 1)
        simp only [List.length_append, pre_length] at this hlen
        omega
      have ht : List.take acc.length (ents acc) = ents acc := by rw [← ents_length acc, List.take_length]
      left
      refine ⟨acc ++ pre (q ++ s) (entT ks[k]), hnx, ?_⟩
      rw [t83_0]
      simp only [nd_ok, nd_lab, nd_rows, nd_kids, encL_length, isL_enc, decL_enc, wrap_hd, hd_pos, ld_br, ld_chk', ld_leaf, fd_br, fd_chk', fd_leaf, decide_true, decide_eq_true_eq, if_true, Int.toNat_natCast, Int.natCast_nonneg, Int.ofNat_lt, Int.ofNat_le, Bool.false_eq_true, if_false, bne_iff_ne, beq_iff_eq, ne_eq, not_true_eq_false, not_false_eq_true, Bool.not_eq_true', decide_eq_false_iff_not, reduceCtorEq, rows_length, pcs_length, er_ok, er_ok', ep_ok, ep_ok', dr_er, dp_ep, isRows_rows, isPcs_pcs, toRows_rows, toPcs_pcs, rows_take, rows_drop, pcs_take, pcs_drop, rows_append, pcs_append, ints_length, isInts_ints, toInts_ints, ei_i, ei_ok, mk_headD, ints_take, ints_drop, ints_append, ints_snoc, ints_snoc', List.take_length, Nat.zero_add, Nat.le_refl, er_a, er_b, er_k, er_n, er_s, er_v, ep_a, ep_b, ep_hk, ep_hn, ep_hs, ep_wk, ep_wn, ep_ws, hk, encL_getD hk, nd_node, hkid, h1, h2, h3, wrap_succ (show k < 9223372036854775807 by omega), ents_length, pre_length, h4, ht, ents_app, List.length_append, and_self, true_or]
    · rintro _ rfl
      rw [t83_0]
      refine ⟨x83_0x0 s rn rt (rows rs) kn kt (encL ks) (q ++ s) (ownE (q ++ s) rs ++ pre (q ++ s) (entL (ks.take ks.length))).length ks.length (ents (ownE (q ++ s) rs ++ pre (q ++ s) (entL (ks.take ks.length)))), by simp, ?_, by simp only [nd_ok, nd_lab, nd_rows, nd_kids, encL_length, isL_enc, decL_enc, wrap_hd, hd_pos, ld_br, ld_chk', ld_leaf, fd_br, fd_chk', fd_leaf, decide_true, decide_eq_true_eq, if_true, Int.toNat_natCast, Int.natCast_nonneg, Int.ofNat_lt, Int.ofNat_le, Bool.false_eq_true, if_false, bne_iff_ne, beq_iff_eq, ne_eq, not_true_eq_false, not_false_eq_true, Bool.not_eq_true', decide_eq_false_iff_not, reduceCtorEq, rows_length, pcs_length, er_ok, er_ok', ep_ok, ep_ok', dr_er, dp_ep, isRows_rows, isPcs_pcs, toRows_rows, toPcs_pcs, rows_take, rows_drop, pcs_take, pcs_drop, rows_append, pcs_append, ints_length, isInts_ints, toInts_ints, ei_i, ei_ok, mk_headD, ints_take, ints_drop, ints_append, ints_snoc, ints_snoc', List.take_length, Nat.zero_add, Nat.le_refl, er_a, er_b, er_k, er_n, er_s, er_v, ep_a, ep_b, ep_hk, ep_hn, ep_hs, ep_wk, ep_wn, ep_ws, Int.lt_irrefl]⟩
      rw [k83_0x0, fd_leaf, List.take_length, ← ents_length (ownE (q ++ s) rs ++ pre (q ++ s) (entL ks)), List.take_length]
  by_cases c : rs = []
  · subst c
    rw [if_neg (by simp)]
    exact key _ rfl
  · have : (0 : Int) < rs.length := by have := List.length_pos_iff.2 c; omega
    rw [if_pos this]
    obtain ⟨rfl, rfl⟩ : rn = none ∧ rt = false := by rcases hf with h | h; exact h; exact absurd h c
    exact key _ (by unfold ownE; rw [if_neg c]; rfl)
theorem s83_ok : ∀ d, CSpecOk E 83 (s83 d)
  | 0 => by
    intro a h cs vals h' he hc
    unfold s83 at he
    split at he <;> simp only [Option.some.injEq, Prod.mk.injEq, reduceCtorEq] at he
    obtain ⟨rfl, rfl, rfl⟩ := he
    simp [allT] at hc
  | d + 1 => by
    intro a h cs vals h' he hc
    unfold s83 at he
    split at he <;> simp only [Option.some.injEq, Prod.mk.injEq, reduceCtorEq] at he
    rename_i s rn rt xs kn kt ys q
    obtain ⟨rfl, rfl, rfl⟩ := he
    simp only [allT, Bool.and_true, Bool.and_eq_true, decide_eq_true_eq] at hc
    obtain ⟨h1, h2, h3, h4, h5, h6, h7⟩ := hc
    obtain ⟨rs, rfl⟩ := rows_ex h1
    obtain ⟨ks, rfl⟩ := isL_ex h2
    simp only [toRows_rows, decL_enc] at *
    refine f83 d (s83_ok d) s rn rt rs kn kt ks q h3 h4 h5 h6 (h7.imp id fun h => ?_)
    cases rs with
    | nil => rfl
    | cons a r => cases h
theorem f35 (s : Bys) (rn : OBo) (rt : Bool) (rs : List Row) (kn : OBo) (kt : Bool) (ks : List Nd) (hn : (entT (.node s rs ks)).length < 4294967290) : call E 35 [.agg [.c (.str s), .c (.sl 5 rn rt (rows rs)), .c (.sl 3 kn kt (encL ks))]] [] = some ([.c (.sl 2 none false (ents (if okR (.node s rs ks) = true then entT (.node s rs ks) else [])))], []) := by
  have hct : (ctOf [(80, s80), (83, s83 (depL ks + 1))]).ok E := ctOf_cons s80_ok (ctOf_cons (s83_ok _) ctOf_nil)
  refine call_of (E := E) (sh := sh) (ct := ctOf [(80, s80), (83, s83 (depL ks + 1))]) (na := 1) (m := 0) hct rfl rfl rfl rfl rfl rfl ?_
  show (p35 (depL ks + 1)).fd ((p35 (depL ks + 1)).ft _ _) = _
  rw [t35]
  by_cases c : okR (.node s rs ks) = true
  · have c' := c
    rw [okR_node] at c'
    simp only [Bool.and_eq_true, decide_eq_true_eq] at c'
    obtain ⟨⟨rfl, rfl⟩, hk⟩ := c'
    have e1 : rows ([] : List Row) = [] := rfl
    have e2 : isRows [] = true := rfl
    have e3 : toRows [] = [] := rfl
    simp only [nd_ok, nd_lab, nd_rows, nd_kids, encL_length, isL_enc, decL_enc, wrap_hd, hd_pos, ld_br, ld_chk', ld_leaf, fd_br, fd_chk', fd_leaf, decide_true, decide_eq_true_eq, if_true, Int.toNat_natCast, Int.natCast_nonneg, Int.ofNat_lt, Int.ofNat_le, Bool.false_eq_true, if_false, bne_iff_ne, beq_iff_eq, ne_eq, not_true_eq_false, not_false_eq_true, Bool.not_eq_true', decide_eq_false_iff_not, reduceCtorEq, rows_length, pcs_length, er_ok, er_ok', ep_ok, ep_ok', dr_er, dp_ep, isRows_rows, isPcs_pcs, toRows_rows, toPcs_pcs, rows_take, rows_drop, pcs_take, pcs_drop, rows_append, pcs_append, ints_length, isInts_ints, toInts_ints, ei_i, ei_ok, mk_headD, ints_take, ints_drop, ints_append, ints_snoc, ints_snoc', List.take_length, Nat.zero_add, Nat.le_refl, er_a, er_b, er_k, er_n, er_s, er_v, ep_a, ep_b, ep_hk, ep_hn, ep_hs, ep_wk, ep_wn, ep_ws, c, show depL ks < depL ks + 1 by omega, hn, hk, pre_nil, List.length_nil, Nat.sub_zero, Nat.zero_le, Bool.not_true, e1, e2, e3, or_true]
  · rw [Bool.not_eq_true] at c
    simp only [nd_ok, nd_lab, nd_rows, nd_kids, encL_length, isL_enc, decL_enc, wrap_hd, hd_pos, ld_br, ld_chk', ld_leaf, fd_br, fd_chk', fd_leaf, decide_true, decide_eq_true_eq, if_true, Int.toNat_natCast, Int.natCast_nonneg, Int.ofNat_lt, Int.ofNat_le, Bool.false_eq_true, if_false, bne_iff_ne, beq_iff_eq, ne_eq, not_true_eq_false, not_false_eq_true, Bool.not_eq_true', decide_eq_false_iff_not, reduceCtorEq, rows_length, pcs_length, er_ok, er_ok', ep_ok, ep_ok', dr_er, dp_ep, isRows_rows, isPcs_pcs, toRows_rows, toPcs_pcs, rows_take, rows_drop, pcs_take, pcs_drop, rows_append, pcs_append, ints_length, isInts_ints, toInts_ints, ei_i, ei_ok, mk_headD, ints_take, ints_drop, ints_append, ints_snoc, ints_snoc', List.take_length, Nat.zero_add, Nat.le_refl, er_a, er_b, er_k, er_n, er_s, er_v, ep_a, ep_b, ep_hk, ep_hn, ep_hs, ep_wk, ep_wn, ep_ws, c, Bool.not_false]
    rfl
theorem s35_ok : CSpecOk E 35 s35 := by
  intro a h cs vals h' he hc
  unfold s35 at he
  split at he <;> simp only [Option.some.injEq, Prod.mk.injEq, reduceCtorEq] at he
  rename_i s rn rt xs kn kt ys
  obtain ⟨rfl, rfl, rfl⟩ := he
  simp only [allT, Bool.and_true, Bool.and_eq_true, decide_eq_true_eq] at hc
  obtain ⟨h1, h2, h3⟩ := hc
  obtain ⟨rs, rfl⟩ := rows_ex h1
  obtain ⟨ks, rfl⟩ := isL_ex h2
  simp only [toRows_rows, decL_enc] at *
  exact f35 s rn rt rs kn kt ks h3
theorem ents_getD {l : List Ent} {i : Nat} (h : i < l.length) : (ents l).getD i [] = ee l[i] := by simp [ents, List.getD_eq_getElem?_getD, h]
theorem ee_p (e : Ent) (d : C) : ((ee e).headD d).st = e.1 := rfl
theorem ee_r (e : Ent) (d : C) : ((ee e).tail.headD d).xs = rows e.2 := rfl
theorem ee_ok (e : Ent) : shOk [.str, .sl 5] (ee e) = true := rfl
theorem leftL_cons (t : Nd) (r : List Nd) (n d : Int) : leftL (t :: r) n d = if 0 < n then leftL r (leftT t n d) d else n := by rw [leftL]
mutual
theorem leftT_le : ∀ (t : Nd) (n d : Int), 0 ≤ n → 0 ≤ leftT t n d ∧ leftT t n d ≤ n
  | .node lab rs ks, n, d, h => by
    rw [leftT]
    split
    · omega
    · have := leftL_le ks (n - 1 - ((lab.length / 50 : Nat) : Int)) (d - 1) (by omega)
      omega
theorem leftL_le : ∀ (l : List Nd) (n d : Int), 0 ≤ n → 0 ≤ leftL l n d ∧ leftL l n d ≤ n
  | [], n, d, h => by rw [leftL]; omega
  | t :: r, n, d, h => by
    rw [leftL]
    split
    · have h1 := leftT_le t n d h
      have h2 := leftL_le r (leftT t n d) d h1.1
      omega
    · omega
end
theorem lensL_mem : ∀ {l : List Nd} {t : Nd}, lensL l = true → t ∈ l → lensT t = true
  | x :: r, t, h, ht => by
    rw [lensL, Bool.and_eq_true] at h
    rcases List.mem_cons.1 ht with rfl | ht
    · exact h.1
    · exact lensL_mem h.2 ht
theorem lensT_eq (t : Nd) : lensT t = (decide (t.lab.length ≤ 9223372036854775807) && decide (t.rows.length ≤ 9223372036854775807) && decide (t.kids.length ≤ 9223372036854775807) && lensL t.kids) := by cases t; rw [lensT]; rfl
end Go.Proofs.YtgaabjmbnomimaaDoor
namespace Go.Proofs.YtgaabjmbnomimaaDoor
open Go Go.Ev
def s149 : CSpec := fun a h => match a, h with
  | [.c (.sl 3 nl tt xs)], [] => some ([decide (xs.length < 4294967296)], [.buf 0 0 0 xs.length], [.mem 3 0 xs])
  | _, _ => none
noncomputable abbrev p117 : Par := par E sh (ctOf [(149, s149)]) 117 1 0
theorem t117 (s : Bys) (rn : OBo) (rt : Bool) (xs : LLC) (kn : OBo) (kt : Bool) (ys : LLC) : p117.ft ([V.agg [V.c (C.str s), V.c (C.sl 5 rn rt xs), V.c (C.sl 3 kn kt ys)]]) ([]) = (Tr.chk (decide (ys.length < 4294967296)) (Tr.leaf (R.out [V.agg [V.c (C.str s), V.c (C.sl 5 rn rt xs), V.buf 0 0 0 ys.length]] [O.mem 3 0 ys]))) := by kernel_rfl
noncomputable abbrev p119 : Par := par E sh (ctOf []) 119 2 0
abbrev s119_0 (a : Bys) (b : Bys) (i5 : Int) : Fr × Hp := ([(0, V.c (C.str a)), (1, V.c (C.str b)), (5, V.c (C.int IntKind.i64 i5))], [])
noncomputable abbrev b119_0 : Code := loopAt (codeOf E (119)) 0
abbrev x119_0x0 (a : Bys) (b : Bys) (i5 : Int) : Ex × Fr × Hp := (Ex.exit 0, [(0, V.c (C.str a)), (1, V.c (C.str b)), (5, V.c (C.int IntKind.i64 i5)), (24, V.c (C.bool false))], [])
theorem t119_0 (a : Bys) (b : Bys) (i5 : Int) : p119.lts b119_0 (s119_0 a b i5) = (Tr.br (decide (i5 < (↑a.length : Int))) (Tr.br (decide (i5 < (↑b.length : Int))) (Tr.chk (decide (0 ≤ i5)) (Tr.chk (decide (i5.toNat < a.length)) (Tr.chk (decide (0 ≤ i5)) (Tr.chk (decide (i5.toNat < b.length)) (Tr.br ((↑(a.getD i5.toNat 0).toNat : Int) == (↑(b.getD i5.toNat 0).toNat : Int)) (Tr.leaf (R.s (s119_0 a b (IntKind.i64.wrap (i5 + 1))))) (Tr.leaf (R.x (x119_0x0 a b i5)))))))) (Tr.leaf (R.x (x119_0x0 a b i5)))) (Tr.leaf (R.x (x119_0x0 a b i5)))) := by kernel_rfl
theorem k119_0x0 (a : Bys) (b : Bys) (i5 : Int) : p119.fkx 0 (x119_0x0 a b i5) = (Tr.leaf (R.out [V.c (C.int IntKind.i64 i5)] [])) := by kernel_rfl
theorem t119 (a : Bys) (b : Bys) : p119.ft ([V.c (C.str a), V.c (C.str b)]) ([]) = (Tr.ls 0 (s119_0 a b (0))) := by kernel_rfl
noncomputable abbrev p120 : Par := par E sh (ctOf []) 120 2 0
theorem t120 (s : Bys) (xs : LLC) (ys : LLC) (n : Int) : p120.ft ([V.agg [V.c (C.str s), V.c (C.sl 5 none false xs), V.c (C.sl 3 none false ys)], V.i n]) ([]) = (Tr.chk (decide (0 ≤ n)) (Tr.chk true (Tr.chk (decide (n.toNat ≤ s.length)) (Tr.chk (decide (0 ≤ n)) (Tr.chk (decide (n.toNat ≤ s.length)) (Tr.chk (decide (s.length ≤ s.length)) (Tr.leaf (R.out [V.agg [V.c (C.str (List.take n.toNat s)), V.c (C.sl 5 none false []), V.c (C.sl 3 none false [[C.str (List.drop n.toNat (List.take s.length s)), C.sl 5 none false xs, C.sl 3 none false ys]])]] [])))))))) := by kernel_rfl
noncomputable abbrev p123b : Par := par E sh (ctOf [(124, s124)]) 123 3 1
abbrev s123b_0 (len : Nat) (xs : LLC) (b : Int) (i8 : Int) (i9 : Int) (i10 : Int) : Fr × Hp := ([(0, V.buf 0 0 0 len), (1, V.c (C.int IntKind.u8 b)), (2, V.fn 124 []), (8, V.c (C.int IntKind.i64 i8)), (9, V.c (C.int IntKind.i64 i9)), (10, V.c (C.int IntKind.i64 i10))], [O.mem 3 0 xs])
noncomputable abbrev b123b_0 : Code := loopAt (codeOf E (123)) 0
abbrev x123b_0x0 (len : Nat) (xs : LLC) (b : Int) (i8 : Int) (i9 : Int) (i10 : Int) : Ex × Fr × Hp := (Ex.exit 0, [(0, V.buf 0 0 0 len), (1, V.c (C.int IntKind.u8 b)), (2, V.fn 124 []), (8, V.c (C.int IntKind.i64 i8)), (9, V.c (C.int IntKind.i64 i9)), (10, V.c (C.int IntKind.i64 i10)), (17, V.c (C.bool false))], [O.mem 3 0 xs])
theorem t123b_0 (len : Nat) (xs : LLC) (b : Int) (i8 : Int) (i9 : Int) (i10 : Int) : p123b.lts b123b_0 (s123b_0 len xs b i8 i9 i10) = (Tr.br (decide (i9 < i10)) (Tr.chk (decide (0 ≤ IntKind.i64.wrap (IntKind.u64.wrap (IntKind.i64.wrap (i9 + i10)) / 2 ^ min (Int.toNat 1) IntKind.u64.bits))) (Tr.chk (decide (IntKind.i64.wrap (IntKind.u64.wrap (IntKind.i64.wrap (i9 + i10)) / 2 ^ min (Int.toNat 1) IntKind.u64.bits) < (↑len : Int))) (Tr.chk true (Tr.chk true (Tr.chk true (Tr.chk (decide (0 + (IntKind.i64.wrap (IntKind.u64.wrap (IntKind.i64.wrap (i9 + i10)) / 2 ^ min (Int.toNat 1) IntKind.u64.bits)).toNat < xs.length)) (Tr.chk (decide (3 ≤ (xs.getD (0 + (IntKind.i64.wrap (IntKind.u64.wrap (IntKind.i64.wrap (i9 + i10)) / 2 ^ min (Int.toNat 1) IntKind.u64.bits)).toNat) []).length)) (Tr.chk (shOk [Sk.str, Sk.sl 5, Sk.sl 3] (List.take 3 (xs.getD (0 + (IntKind.i64.wrap (IntKind.u64.wrap (IntKind.i64.wrap (i9 + i10)) / 2 ^ min (Int.toNat 1) IntKind.u64.bits)).toNat) []))) (Tr.chk (decide (((List.take 3 (xs.getD (0 + (IntKind.i64.wrap (IntKind.u64.wrap (IntKind.i64.wrap (i9 + i10)) / 2 ^ min (Int.toNat 1) IntKind.u64.bits)).toNat) [])).headD C.pnil).st ≠ [])) (Tr.chk (decide (0 ≤ b)) (Tr.chk (decide (b ≤ 255)) (Tr.br (decide (hdB ((List.take 3 (xs.getD (0 + (IntKind.i64.wrap (IntKind.u64.wrap (IntKind.i64.wrap (i9 + i10)) / 2 ^ min (Int.toNat 1) IntKind.u64.bits)).toNat) [])).headD C.pnil).st - b < 0)) (Tr.leaf (R.s (s123b_0 len xs b i8 (IntKind.i64.wrap (IntKind.i64.wrap (IntKind.u64.wrap (IntKind.i64.wrap (i9 + i10)) / 2 ^ min (Int.toNat 1) IntKind.u64.bits) + 1)) i10))) (Tr.leaf (R.s (s123b_0 len xs b i8 i9 (IntKind.i64.wrap (IntKind.u64.wrap (IntKind.i64.wrap (i9 + i10)) / 2 ^ min (Int.toNat 1) IntKind.u64.bits))))))))))))))))) (Tr.leaf (R.x (x123b_0x0 len xs b i8 i9 i10)))) := by kernel_rfl
theorem k123b_0x0 (len : Nat) (xs : LLC) (b : Int) (i8 : Int) (i9 : Int) (i10 : Int) : p123b.fkx 0 (x123b_0x0 len xs b i8 i9 i10) = (Tr.br (decide (i9 < i8)) (Tr.chk (decide (0 ≤ i9)) (Tr.chk (decide (i9 < (↑len : Int))) (Tr.chk true (Tr.chk true (Tr.chk true (Tr.chk (decide (0 + i9.toNat < xs.length)) (Tr.chk (decide (3 ≤ (xs.getD (0 + i9.toNat) []).length)) (Tr.chk (shOk [Sk.str, Sk.sl 5, Sk.sl 3] (List.take 3 (xs.getD (0 + i9.toNat) []))) (Tr.chk (decide (((List.take 3 (xs.getD (0 + i9.toNat) [])).headD C.pnil).st ≠ [])) (Tr.chk (decide (0 ≤ b)) (Tr.chk (decide (b ≤ 255)) (Tr.leaf (R.out [V.c (C.int IntKind.i64 i9), V.c (C.bool (hdB ((List.take 3 (xs.getD (0 + i9.toNat) [])).headD C.pnil).st - b == 0))] [O.mem 3 0 xs]))))))))))))) (Tr.leaf (R.out [V.c (C.int IntKind.i64 i9), V.c (C.bool false)] [O.mem 3 0 xs]))) := by kernel_rfl
theorem t123b (len : Nat) (xs : LLC) (b : Int) : p123b.ft ([V.buf 0 0 0 len, V.c (C.int IntKind.u8 b), V.fn 124 []]) ([O.mem 3 0 xs]) = (Tr.chk true (Tr.ls 0 (s123b_0 len xs b ((↑len : Int)) (0) ((↑len : Int))))) := by kernel_rfl
end Go.Proofs.YtgaabjmbnomimaaDoor
namespace Go.Proofs.YtgaabjmbnomimaaDoor
open Go Go.Ev
theorem Nd.lab_node (a : Bys) (b : List Row) (c : List Nd) : (Nd.node a b c).lab = a := rfl
theorem Nd.rows_node (a : Bys) (b : List Row) (c : List Nd) : (Nd.node a b c).rows = b := rfl
theorem Nd.kids_node (a : Bys) (b : List Row) (c : List Nd) : (Nd.node a b c).kids = c := rfl
theorem bl_irrefl : ∀ x : List UInt8, Op.bytesLess x x = false
  | [] => rfl
  | a :: x => by simp [Op.bytesLess, bl_irrefl x]
theorem bl_trans : ∀ {x y z : List UInt8}, Op.bytesLess x y = true → Op.bytesLess y z = true → Op.bytesLess x z = true
  | [], [], _, h, _ => by simp [Op.bytesLess] at h
  | [], _ :: _, [], _, h => by simp [Op.bytesLess] at h
  | [], _ :: _, _ :: _, _, _ => rfl
  | _ :: _, [], _, h, _ => by simp [Op.bytesLess] at h
  | _ :: _, _ :: _, [], _, h => by simp [Op.bytesLess] at h
  | a :: x, b :: y, c :: z, h, k => by
    simp only [Op.bytesLess, Bool.or_eq_true, decide_eq_true_eq, Bool.and_eq_true, beq_iff_eq] at h k ⊢
    rcases h with h | ⟨rfl, h⟩ <;> rcases k with k | ⟨rfl, k⟩
    · exact .inl (UInt8.lt_trans h k)
    · exact .inl h
    · exact .inl k
    · exact .inr ⟨rfl, bl_trans h k⟩
theorem bl_total : ∀ (x y : Bys), Op.bytesLess x y = false → Op.bytesLess y x = false → x = y
  | [], [], _, _ => rfl
  | [], _ :: _, h, _ => by simp [Op.bytesLess] at h
  | _ :: _, [], _, h => by simp [Op.bytesLess] at h
  | a :: x, b :: y, h, k => by
    simp only [Op.bytesLess, Bool.or_eq_false_iff, decide_eq_false_iff_not, Bool.and_eq_false_iff, beq_eq_false_iff_ne] at h k
    have e : a = b := by
      have h1 := UInt8.not_lt.1 h.1
      have h2 := UInt8.not_lt.1 k.1
      exact UInt8.le_antisymm h2 h1
    subst e
    rw [bl_total x y (h.2.resolve_left (by simp)) (k.2.resolve_left (by simp))]
theorem bl_asymm {x y : List UInt8} (h : Op.bytesLess x y = true) : Op.bytesLess y x = false := by
  cases k : Op.bytesLess y x with
  | false => rfl
  | true => have := bl_trans h k; rw [bl_irrefl] at this; cases this
theorem bl_ne {x y : List UInt8} (h : Op.bytesLess x y = true) : x ≠ y := by
  rintro rfl
  rw [bl_irrefl] at h; cases h
theorem bl_app : ∀ (a x y : Bys), Op.bytesLess (a ++ x) (a ++ y) = Op.bytesLess x y
  | [], _, _ => rfl
  | c :: a, x, y => by simp [Op.bytesLess, bl_app a x y]
theorem bl_hd {x y : List UInt8} (hx : x ≠ []) (hy : y ≠ []) (h : hdB x < hdB y) : Op.bytesLess x y = true := by
  obtain ⟨a, r, rfl⟩ := head_of_ne hx
  obtain ⟨b, s, rfl⟩ := head_of_ne hy
  simp only [hdB, List.headD_cons] at h
  have : a < b := by rw [UInt8.lt_iff_toNat_lt]; omega
  simp [Op.bytesLess, this]
def ownB (rs : List Row) : List Ent := if rs = [] then [] else [([], rs)]
def entB (t : Nd) : List Ent := ownB t.rows ++ entL t.kids
theorem entT_B (t : Nd) : entT t = (entB t).map fun e => (t.lab ++ e.1, e.2) := by
  rw [entT_eq, entB, List.map_append, ownB]
  split <;> simp
def insE : List Ent → List UInt8 → List Row → List Ent
  | [], p, r => if r = [] then [] else [(p, r)]
  | e :: l, p, r => if Op.bytesLess e.1 p = true then e :: insE l p r else if e.1 = p then (if r = [] then l else (p, r) :: l) else if r = [] then e :: l else (p, r) :: e :: l
theorem insE_lt {A l : List Ent} {p : List UInt8} {r : List Row} (h : ∀ e ∈ A, Op.bytesLess e.1 p = true) : insE (A ++ l) p r = A ++ insE l p r := by
  induction A with
  | nil => rfl
  | cons e A ih =>
    rw [List.cons_append, insE, if_pos (h e (by simp)), ih fun x hx => h x (by simp [hx])]; rfl
theorem insE_gt {B : List Ent} {p : List UInt8} {r : List Row} (h : ∀ e ∈ B, Op.bytesLess p e.1 = true) : insE B p r = (if r = [] then [] else [(p, r)]) ++ B := by
  cases B with
  | nil => simp [insE]
  | cons e B =>
    have h1 := h e (by simp)
    rw [insE, if_neg (by rw [bl_asymm h1]; simp), if_neg (fun h => bl_ne h1 h.symm)]
    split <;> simp
theorem insE_mid {M B : List Ent} {p : List UInt8} {r : List Row} (h : ∀ e ∈ B, Op.bytesLess p e.1 = true) : insE (M ++ B) p r = insE M p r ++ B := by
  induction M with
  | nil => rw [List.nil_append, insE_gt h]; rfl
  | cons e M ih =>
    simp only [List.cons_append, insE, ih]
    split
    · rfl
    · split
      · split <;> rfl
      · split <;> rfl
theorem insE_map (a : Bys) (l : List Ent) (p : Bys) (r : List Row) : insE (l.map fun e => (a ++ e.1, e.2)) (a ++ p) r = (insE l p r).map fun e => (a ++ e.1, e.2) := by
  induction l with
  | nil => simp only [List.map_nil, insE]; split <;> simp
  | cons e l ih =>
    simp only [List.map_cons, insE, bl_app, List.append_cancel_left_eq, ih]
    split
    · simp
    · split
      · split <;> simp
      · split <;> simp
theorem insE_absent {l : List Ent} {p : List UInt8} (h : ∀ e ∈ l, e.1 ≠ p) : insE l p [] = l := by
  induction l with
  | nil => rfl
  | cons e l ih =>
    rw [insE, ih fun x hx => h x (by simp [hx]), if_neg (h e (by simp))]
    simp
def sharedL : List UInt8 → List UInt8 → Nat
  | a :: r, b :: s => if a = b then sharedL r s + 1 else 0
  | _, _ => 0
def joinN (t : Nd) : Option Nd :=
  if t.rows ≠ [] ∨ 2 ≤ t.kids.length then some t else match t.kids with
    | [] => none
    | k :: _ => some (.node (t.lab ++ k.lab) k.rows k.kids)
def splitN (t : Nd) (n : Nat) : Nd := .node (t.lab.take n) [] [.node (t.lab.drop n) t.rows t.kids]
def downN (k : Nd) (p : Bys) : Nd := if sharedL k.lab p < k.lab.length then splitN k (sharedL k.lab p) else k
def setN (t : Nd) (i : Nat) : Option Nd → Nd
  | some k => .node t.lab t.rows (t.kids.set i k)
  | none => .node t.lab t.rows (t.kids.take i ++ t.kids.drop (i + 1))
def putN : Nat → Nd → List UInt8 → List Row → Nd
  | 0, t, _, _ => t
  | f + 1, t, p, rs => match p with
    | [] => .node t.lab rs t.kids
    | b :: q =>
      if hitK t.kids (b.toNat : Int) = true then
        if sharedL (t.kids.getD (posK t.kids (b.toNat : Int)) default).lab (b :: q) < (t.kids.getD (posK t.kids (b.toNat : Int)) default).lab.length ∧ rs = [] then t
        else setN t (posK t.kids (b.toNat : Int)) (joinN (putN f (downN (t.kids.getD (posK t.kids (b.toNat : Int)) default) (b :: q)) ((b :: q).drop (sharedL (t.kids.getD (posK t.kids (b.toNat : Int)) default).lab (b :: q))) rs))
      else if rs = [] then t else .node t.lab t.rows (t.kids.take (posK t.kids (b.toNat : Int)) ++ .node (b :: q) rs [] :: t.kids.drop (posK t.kids (b.toNat : Int)))
theorem shared_split : ∀ (a p : Bys), a.take (sharedL a p) = p.take (sharedL a p) ∧ sharedL a p ≤ a.length ∧ sharedL a p ≤ p.length
  | [], p => by simp [sharedL]
  | _ :: _, [] => by simp [sharedL]
  | a :: r, b :: s => by
    simp only [sharedL]
    split
    · rename_i h
      have := shared_split r s
      simp [h, this.1, this.2.1, this.2.2]
    · simp
theorem shared_next : ∀ (a p : Bys), sharedL a p < a.length → ¬ a <+: p
  | [], p, h => by simp [sharedL] at h
  | _ :: _, [], _ => by simp
  | a :: r, b :: s, h => by
    simp only [sharedL] at h
    rw [List.cons_prefix_cons]
    split at h
    · rintro ⟨_, h2⟩
      exact shared_next r s (by simpa using h) h2
    · rename_i hne
      exact fun h2 => hne h2.1
theorem shared_pos {a p : List UInt8} (ha : a ≠ []) (hp : p ≠ []) (h : hdB a = hdB p) : 0 < sharedL a p := by
  obtain ⟨x, r, rfl⟩ := head_of_ne ha
  obtain ⟨y, s, rfl⟩ := head_of_ne hp
  simp only [hdB, List.headD_cons] at h
  have : x = y := UInt8.toNat_inj.1 (by omega)
  simp [sharedL, this]
def kidsOk (l : List Nd) (n : Nat) : Prop := (∀ t ∈ l, okT t n = true) ∧ l.Pairwise fun a b => hdB a.lab < hdB b.lab
theorem okL_iff : ∀ {l : List Nd} {n : Nat} {f : Int}, okL l n f = true ↔ kidsOk l n ∧ ∀ t ∈ l, f < hdB t.lab
  | [], n, f => by simp [okL, kidsOk]
  | t :: r, n, f => by
    simp only [okL, Bool.and_eq_true, decide_eq_true_eq, okL_iff (l := r), kidsOk, List.mem_cons, forall_eq_or_imp, List.pairwise_cons]
    constructor
    · rintro ⟨⟨h1, h2⟩, ⟨h3, h4⟩, h5⟩
      exact ⟨⟨⟨h1, h3⟩, h5, h4⟩, h2, fun x hx => by have := h5 x hx; omega⟩
    · rintro ⟨⟨⟨h1, h3⟩, h5, h4⟩, h2, _⟩
      exact ⟨⟨h1, h2⟩, ⟨h3, h4⟩, h5⟩
theorem okL_iff' {l : List Nd} {n : Nat} : okL l n (-1) = true ↔ kidsOk l n := by
  rw [okL_iff]
  exact ⟨fun h => h.1, fun h => ⟨h, fun t _ => by have := (hdB_lt t.lab).1; omega⟩⟩
theorem kidsOk_sub {l m : List Nd} {n : Nat} (h : kidsOk l n) (hs : m.Sublist l) : kidsOk m n := ⟨fun t ht => h.1 t (hs.subset ht), h.2.sublist hs⟩
theorem kidsOk_set {l : List Nd} {n i : Nat} {k : Nd} (h : kidsOk l n) (hi : i < l.length) (hk : okT k n = true) (hh : hdB k.lab = hdB l[i].lab) : kidsOk (l.set i k) n := by
  refine ⟨fun t ht => ?_, ?_⟩
  · rcases List.mem_or_eq_of_mem_set ht with h1 | h1
    · exact h.1 t h1
    · rw [h1]; exact hk
  · rw [List.pairwise_iff_getElem] at *
    intro a b ha hb hab
    have h2 := h.2
    rw [List.pairwise_iff_getElem] at h2
    rw [List.length_set] at ha hb
    have := h2 a b ha hb hab
    simp only [List.getElem_set]
    split <;> split <;> simp_all
theorem kidsOk_ins {l : List Nd} {n i : Nat} {k : Nd} (h : kidsOk l n) (hk : okT k n = true) (h1 : ∀ t ∈ l.take i, hdB t.lab < hdB k.lab) (h2 : ∀ t ∈ l.drop i, hdB k.lab < hdB t.lab) : kidsOk (l.take i ++ k :: l.drop i) n := by
  refine ⟨fun t ht => ?_, ?_⟩
  · rcases List.mem_append.1 ht with h3 | h3
    · exact h.1 t (List.mem_of_mem_take h3)
    · rcases List.mem_cons.1 h3 with rfl | h3
      · exact hk
      · exact h.1 t (List.mem_of_mem_drop h3)
  · rw [List.pairwise_append, List.pairwise_cons]
    refine ⟨h.2.sublist (List.take_sublist _ _), ⟨h2, h.2.sublist (List.drop_sublist _ _)⟩, fun a ha b hb => ?_⟩
    rcases List.mem_cons.1 hb with rfl | hb
    · exact h1 a ha
    · have := h1 a ha; have := h2 b hb; omega
theorem okT_iff {t : Nd} {n : Nat} : okT t n = true ↔ t.lab ≠ [] ∧ t.lab.length ≤ n ∧ right t.rows = true ∧ (t.rows ≠ [] ∨ 2 ≤ t.kids.length) ∧ kidsOk t.kids (n - t.lab.length) := by
  rw [okT_eq]
  simp only [Bool.and_eq_true, decide_eq_true_eq, Bool.or_eq_true, okL_iff', and_assoc]
theorem hdB_app {a b : List UInt8} (h : a ≠ []) : hdB (a ++ b) = hdB a := by
  obtain ⟨x, r, rfl⟩ := head_of_ne h; rfl
theorem hdB_take {a : List UInt8} {n : Nat} (h : 0 < n) : hdB (a.take n) = hdB a := by
  cases a with
  | nil => simp
  | cons x r => cases n with
    | zero => omega
    | succ n => rfl
theorem entL_hd {l : List Nd} {n : Nat} (h : kidsOk l n) {e : Ent} (he : e ∈ entL l) : e.1 ≠ [] ∧ ∃ t ∈ l, hdB e.1 = hdB t.lab := by
  obtain ⟨t, ht, s, hs⟩ := entL_pre he
  have hne := (okT_iff.1 (h.1 t ht)).1
  refine ⟨by rw [hs]; simp [hne], t, ht, by rw [hs, hdB_app hne]⟩
theorem joinN_ok {u : Nd} {n : Nat} (h0 : u.lab ≠ []) (h1 : u.lab.length ≤ n) (h2 : right u.rows = true) (h3 : kidsOk u.kids (n - u.lab.length)) :
    match joinN u with
    | some k => okT k n = true ∧ hdB k.lab = hdB u.lab ∧ entT k = entT u
    | none => entT u = [] := by
  unfold joinN
  by_cases c : u.rows ≠ [] ∨ 2 ≤ u.kids.length
  · rw [if_pos c]
    exact ⟨okT_iff.2 ⟨h0, h1, h2, c, h3⟩, rfl, rfl⟩
  · rw [if_neg c]
    have c1 : u.rows = [] := by
      by_cases e : u.rows = []
      · exact e
      · exact absurd (.inl e) c
    cases hk : u.kids with
    | nil => simp only; rw [entT_eq, c1, hk]; simp [entL]
    | cons k r =>
      have : r = [] := by
        cases r with
        | nil => rfl
        | cons x y => exact absurd (.inr (by rw [hk]; simp)) c
      subst this
      simp only
      rw [hk] at h3
      obtain ⟨g1, g2, g3, g4, g5⟩ := okT_iff.1 (h3.1 k (by simp))
      refine ⟨okT_iff.2 ⟨by simp [Nd.lab_node, h0], ?_, g3, g4, ?_⟩, ?_, ?_⟩
      · simp only [Nd.lab_node, List.length_append] at g2 ⊢; omega
      · simp only [Nd.lab_node, Nd.kids_node, List.length_append] at g5 ⊢
        rw [← Nat.sub_sub]; exact g5
      · simp only [Nd.lab_node]; exact hdB_app h0
      · rw [entT_B, entT_B u, entB, entB, c1, hk]
        simp only [Nd.rows_node, Nd.kids_node, Nd.lab_node, entL, List.append_nil]
        rw [entT_B k]
        simp [ownB, entB, List.map_append, Function.comp_def]
theorem downN_ok {k : Nd} {n : Nat} {p : List UInt8} (h : okT k n = true) (hs : 0 < sharedL k.lab p) :
    (downN k p).lab = p.take (sharedL k.lab p) ∧ (downN k p).lab ≠ [] ∧ hdB (downN k p).lab = hdB k.lab ∧ (downN k p).lab.length = sharedL k.lab p ∧ right (downN k p).rows = true ∧ kidsOk (downN k p).kids (n - sharedL k.lab p) ∧ entT (downN k p) = entT k := by
  obtain ⟨g1, g2, g3, g4, g5⟩ := okT_iff.1 h
  obtain ⟨s1, s2, s3⟩ := shared_split k.lab p
  unfold downN
  split
  · rename_i c
    have hne : k.lab.take (sharedL k.lab p) ≠ [] := by
      intro e; have := congrArg List.length e; rw [List.length_take, List.length_nil] at this; omega
    refine ⟨s1, hne, hdB_take hs, by simp only [splitN, Nd.lab_node, List.length_take]; omega, rfl, ⟨fun t ht => ?_, List.pairwise_singleton _ _⟩, ?_⟩
    · simp only [splitN, Nd.kids_node, List.mem_singleton] at ht
      subst ht
      refine okT_iff.2 ⟨?_, ?_, g3, g4, ?_⟩
      · simp only [Nd.lab_node]
        intro e; have := congrArg List.length e; rw [List.length_drop, List.length_nil] at this; omega
      · simp only [Nd.lab_node, List.length_drop]; omega
      · simp only [Nd.lab_node, Nd.kids_node, List.length_drop]
        rw [show n - sharedL k.lab p - (k.lab.length - sharedL k.lab p) = n - k.lab.length by omega]; exact g5
    · rw [entT_B, entT_B k]
      simp only [splitN, entB, Nd.rows_node, Nd.kids_node, Nd.lab_node, entL, List.append_nil]
      rw [entT_B]
      simp only [entB, ownB, Nd.rows_node, Nd.kids_node, Nd.lab_node, if_true, List.nil_append, List.map_map]
      refine List.map_congr_left fun e _ => ?_
      simp only [Function.comp]
      rw [← List.append_assoc, List.take_append_drop]
  · have c : sharedL k.lab p = k.lab.length := by omega
    rw [c] at s1 ⊢
    rw [List.take_length] at s1
    exact ⟨s1, g1, rfl, rfl, g3, g5, rfl⟩
theorem insE_own {rs : List Row} {l : List Ent} {b : UInt8} {q : List UInt8} {r : List Row} : insE (ownB rs ++ l) (b :: q) r = ownB rs ++ insE l (b :: q) r := by
  refine insE_lt fun e he => ?_
  unfold ownB at he
  split at he
  · simp at he
  · simp only [List.mem_singleton] at he; subst he; rfl
theorem entB_node (a : Bys) (rs : List Row) (ks : List Nd) : entB (.node a rs ks) = ownB rs ++ entL ks := rfl
theorem hdB_cons (b : UInt8) (q : Bys) : hdB (b :: q) = (b.toNat : Int) := rfl
theorem putN_ok : ∀ (f : Nat) (t : Nd) (p : Bys) (rs : List Row) (n : Nat), p.length < f → kidsOk t.kids n → p.length ≤ n → right rs = true → right t.rows = true →
    (putN f t p rs).lab = t.lab ∧ right (putN f t p rs).rows = true ∧ kidsOk (putN f t p rs).kids n ∧ (p ≠ [] → (putN f t p rs).rows = t.rows) ∧ entB (putN f t p rs) = insE (entB t) p rs
  | 0, t, p, rs, n, h, _, _, _, _ => by omega
  | f + 1, t, [], rs, n, hf, hk, hp, hr, ht => by
    refine ⟨rfl, hr, hk, fun h => absurd rfl h, ?_⟩
    simp only [putN, entB_node]
    have hgt : ∀ e ∈ entL t.kids, Op.bytesLess [] e.1 = true := fun e he => by
      obtain ⟨b, q, hb⟩ := head_of_ne (entL_hd hk he).1
      rw [hb]; rfl
    rw [entB]
    unfold ownB
    by_cases c : t.rows = []
    · rw [if_pos c, List.nil_append, insE_gt hgt]
    · rw [if_neg c]
      show _ = insE (([], t.rows) :: entL t.kids) [] rs
      rw [insE]
      by_cases c2 : rs = []
      · simp [Op.bytesLess, c2]
      · simp [Op.bytesLess, c2]
  | f + 1, t, b :: q, rs, n, hf, hk, hp, hr, ht => by
    have hrise : riseK t.kids := (okL_rise (okL_iff'.2 hk)).1
    obtain ⟨p1, p2⟩ := posK_find hrise (b.toNat : Int)
    have hple := posK_le t.kids (b.toNat : Int)
    have hne : b :: q ≠ [] := by simp
    generalize hi : posK t.kids (b.toNat : Int) = i at *
    have hA : ∀ e ∈ entL (t.kids.take i), Op.bytesLess e.1 (b :: q) = true := fun e he => by
      obtain ⟨e1, u, hu, e2⟩ := entL_hd (kidsOk_sub hk (List.take_sublist _ _)) he
      refine bl_hd e1 hne ?_
      obtain ⟨j, hj, rfl⟩ := List.getElem_of_mem hu
      rw [List.length_take] at hj
      rw [e2, hdB_cons, List.getElem_take]
      have := p1 j (by omega)
      rwa [getD_at' (by omega)] at this
    have hB : ∀ (m : Nat), i ≤ m → (∀ h : m < t.kids.length, (b.toNat : Int) < hdB t.kids[m].lab) → ∀ e ∈ entL (t.kids.drop m), Op.bytesLess (b :: q) e.1 = true := fun m hm hm2 e he => by
      obtain ⟨e1, u, hu, e2⟩ := entL_hd (kidsOk_sub hk (List.drop_sublist _ _)) he
      refine bl_hd hne e1 ?_
      obtain ⟨j, hj, rfl⟩ := List.getElem_of_mem hu
      rw [List.length_drop] at hj
      rw [e2, hdB_cons, List.getElem_drop]
      cases j with
      | zero => exact hm2 (by omega)
      | succ j =>
        have h1 := hm2 (by omega)
        have h2 := hrise m (m + (j + 1)) (by omega) (by omega)
        rw [getD_at' (by omega), getD_at' (by omega)] at h2
        omega
    simp only [putN, hi]
    by_cases c1 : hitK t.kids (b.toNat : Int) = true
    · rw [if_pos c1]
      unfold hitK at c1
      rw [hi] at c1
      simp only [Bool.and_eq_true, decide_eq_true_eq] at c1
      obtain ⟨c1, c2⟩ := c1
      rw [getD_at' c1] at c2 ⊢
      have hko := hk.1 _ (List.getElem_mem c1)
      obtain ⟨g1, g2, g3, g4, g5⟩ := okT_iff.1 hko
      have hsp : 0 < sharedL t.kids[i].lab (b :: q) := shared_pos g1 hne (by rw [c2, hdB_cons])
      obtain ⟨s1, s2, s3⟩ := shared_split t.kids[i].lab (b :: q)
      have hsplit : t.kids = t.kids.take i ++ t.kids[i] :: t.kids.drop (i + 1) := by
        rw [← List.drop_eq_getElem_cons c1, List.take_append_drop]
      have hB' := hB (i + 1) (by omega) (fun h => by
        have h2 := hrise i (i + 1) (by omega) h
        rw [getD_at' c1, getD_at' h] at h2; omega)
      have hent : insE (entL t.kids) (b :: q) rs = entL (t.kids.take i) ++ (insE (entT t.kids[i]) (b :: q) rs ++ entL (t.kids.drop (i + 1))) := by
        conv => lhs; rw [hsplit, entL_app, entL]
        rw [insE_lt hA, insE_mid hB']
      by_cases c3 : sharedL t.kids[i].lab (b :: q) < t.kids[i].lab.length ∧ rs = []
      · rw [if_pos c3]
        refine ⟨rfl, ht, hk, fun _ => rfl, ?_⟩
        obtain ⟨c3, rfl⟩ := c3
        rw [entB, insE_own, insE_absent (l := entL t.kids)]
        intro e he hh
        rw [hsplit, entL_app, entL] at he
        rcases List.mem_append.1 he with he | he
        · exact bl_ne (hA e he) hh
        rcases List.mem_append.1 he with he | he
        · obtain ⟨s, hs⟩ := entT_pre _ e he
          exact shared_next _ _ c3 ⟨s, by rw [← hs, hh]⟩
        · exact bl_ne (hB' e he) hh.symm
      · rw [if_neg c3]
        obtain ⟨d1, d2, d3, d4, d5, d6, d7⟩ := downN_ok hko hsp
        obtain ⟨r1, r2, r3, _, r5⟩ := putN_ok f (downN t.kids[i] (b :: q)) ((b :: q).drop (sharedL t.kids[i].lab (b :: q))) rs (n - sharedL t.kids[i].lab (b :: q)) (by rw [List.length_drop]; omega) d6 (by rw [List.length_drop]; omega) hr d5
        generalize putN f (downN t.kids[i] (b :: q)) ((b :: q).drop (sharedL t.kids[i].lab (b :: q))) rs = u at *
        have hpu : insE (entT t.kids[i]) (b :: q) rs = entT u := by
          rw [← d7, entT_B, entT_B u, r5, r1, ← insE_map, d1, List.take_append_drop]
        have hj := joinN_ok (u := u) (n := n) (by rw [r1]; exact d2) (by rw [r1, d4]; omega) r2 (by rw [r1, d4]; exact r3)
        have hfin : insE (entB t) (b :: q) rs = ownB t.rows ++ (entL (t.kids.take i) ++ (entT u ++ entL (t.kids.drop (i + 1)))) := by rw [entB, insE_own, hent, hpu]
        cases hju : joinN u with
        | none =>
          rw [hju] at hj
          refine ⟨rfl, ht, kidsOk_sub hk ?_, fun _ => rfl, ?_⟩
          · conv => rhs; rw [hsplit]
            exact List.Sublist.append (List.Sublist.refl _) (List.sublist_cons_self _ _)
          · simp only at hj
            rw [hfin, hj, setN, entB_node, entL_app]; simp
        | some k =>
          rw [hju] at hj
          obtain ⟨j1, j2, j3⟩ := hj
          refine ⟨rfl, ht, kidsOk_set hk c1 j1 (by rw [j2, r1, d3]), fun _ => rfl, ?_⟩
          rw [hfin, setN, entB_node, ← j3]
          have : t.kids.set i k = t.kids.take i ++ k :: t.kids.drop (i + 1) := by
            rw [List.set_eq_take_append_cons_drop, if_pos c1]
          rw [this, entL_app, entL]
    · rw [if_neg c1]
      have hB' := hB i (Nat.le_refl _) (fun h => by
        have h2 := p2 i (Nat.le_refl _) h
        rw [getD_at' h] at h2
        have : hdB t.kids[i].lab ≠ (b.toNat : Int) := fun e => c1 (by unfold hitK; rw [hi, getD_at' h]; simp [h, e])
        omega)
      have hent : insE (entL t.kids) (b :: q) rs = entL (t.kids.take i) ++ ((if rs = [] then [] else [(b :: q, rs)]) ++ entL (t.kids.drop i)) := by
        conv => lhs; rw [← List.take_append_drop i t.kids, entL_app]
        rw [insE_lt hA, insE_gt hB']
      by_cases c2 : rs = []
      · rw [if_pos c2]
        refine ⟨rfl, ht, hk, fun _ => rfl, ?_⟩
        rw [entB, insE_own, hent, if_pos c2, List.nil_append, ← entL_app, List.take_append_drop]
      · rw [if_neg c2]
        refine ⟨rfl, ht, kidsOk_ins hk (okT_iff.2 ⟨hne, hp, hr, .inl c2, by simp [kidsOk, Nd.kids_node]⟩) (fun u hu => ?_) (fun u hu => ?_), fun _ => rfl, ?_⟩
        · obtain ⟨j, hj, rfl⟩ := List.getElem_of_mem hu
          rw [List.length_take] at hj
          rw [List.getElem_take]
          have := p1 j (by omega)
          rwa [getD_at' (by omega)] at this
        · obtain ⟨j, hj, rfl⟩ := List.getElem_of_mem hu
          rw [List.length_drop] at hj
          rw [List.getElem_drop]
          simp only [Nd.lab_node, hdB_cons]
          have h2 := p2 (i + j) (by omega) (by omega)
          rw [getD_at' (by omega)] at h2
          have : hdB t.kids[i + j].lab ≠ (b.toNat : Int) := fun e => by
            cases j with
            | zero => exact c1 (by unfold hitK; rw [hi, getD_at' (by omega)]; simp at e ⊢; exact ⟨by omega, e⟩)
            | succ j =>
              have h3 := hrise i (i + (j + 1)) (by omega) (by omega)
              have h4 := p2 i (Nat.le_refl _) (by omega)
              rw [getD_at' (i := i + (j + 1)) (by omega)] at h3
              omega
          omega
        · rw [show insE (entB t) (b :: q) rs = ownB t.rows ++ insE (entL t.kids) (b :: q) rs from insE_own, hent, if_neg c2, entB_node, entL_app, entL, entT_eq]
          simp [Nd.lab_node, Nd.rows_node, Nd.kids_node, entL, c2]
def putR (t : Nd) (p : Bys) (rs : List Row) : Nd := putN (p.length + 1) t p rs
theorem okR_iff {t : Nd} : okR t = true ↔ t.lab = [] ∧ t.rows = [] ∧ kidsOk t.kids 24 := by
  unfold okR
  simp only [Bool.and_eq_true, decide_eq_true_eq, okL_iff', and_assoc]
def entR (t : Nd) : List Ent := entL t.kids
theorem putR_ok {t : Nd} {p : List UInt8} {rs : List Row} (h : okR t = true) (h1 : p ≠ []) (h2 : p.length ≤ 24) (h3 : right rs = true) :
    okR (putR t p rs) = true ∧ entR (putR t p rs) = insE (entR t) p rs := by
  obtain ⟨g1, g2, g3⟩ := okR_iff.1 h
  obtain ⟨r1, r2, r3, r4, r5⟩ := putN_ok (p.length + 1) t p rs 24 (by omega) g3 h2 h3 (by rw [g2]; rfl)
  refine ⟨okR_iff.2 ⟨r1.trans g1, (r4 h1).trans g2, r3⟩, ?_⟩
  unfold entB at r5
  rw [r4 h1, g2] at r5
  exact r5
end Go.Proofs.YtgaabjmbnomimaaDoor
namespace Go.Proofs.YtgaabjmbnomimaaDoor
open Go Go.Ev
def at0 (p : Bys) (n : Nat) : UInt8 := p.getD n 0
def commonF (l : List Ent) : Nat → Nat → Nat
  | 0, n => n
  | f + 1, n => if n ≥ (l.headD default).1.length ∨ n ≥ 24 then n else if (l.all fun e => decide (n < e.1.length) && decide (at0 e.1 n = at0 (l.headD default).1 n)) = true then commonF l f (n + 1) else n
def commonL (l : List Ent) (n : Nat) : Nat := commonF l 25 n
def grp (l : List Ent) (b : UInt8) (n : Nat) : Nat := (l.takeWhile fun e => decide (at0 e.1 n = b)).length
mutual
def nodeF : Nat → List Ent → Nat → Nd
  | 0, _, _ => default
  | f + 1, l, n =>
    if (l.headD default).1.length = commonL l n then .node (((l.headD default).1.take (commonL l n)).drop n) (l.headD default).2 (belowF f l.tail (commonL l n))
    else .node (((l.headD default).1.take (commonL l n)).drop n) [] (belowF f l (commonL l n))
def belowF : Nat → List Ent → Nat → List Nd
  | 0, _, _ => []
  | _ + 1, [], _ => []
  | f + 1, e :: r, n => nodeF f ((e :: r).take (grp (e :: r) (at0 e.1 n) n)) n :: belowF f ((e :: r).drop (grp (e :: r) (at0 e.1 n) n)) n
end
def pre' (q : Bys) (l : List Ent) : List Ent := l.map fun e => (q ++ e.1, e.2)
theorem pre'_app (q : Bys) (a b : List Ent) : pre' q (a ++ b) = pre' q a ++ pre' q b := List.map_append
theorem entT_pre' (q : Bys) (t : Nd) : pre' q (entT t) = pre' (q ++ t.lab) (entB t) := by
  rw [entT_B]; simp [pre', Function.comp_def]
theorem at0_app (q s : Bys) : at0 (q ++ s) q.length = at0 s 0 := by simp [at0, List.getD_eq_getElem?_getD, List.getElem?_append_right]
theorem at0_hd {s t : List UInt8} (h : hdB s = hdB t) : at0 s 0 = at0 t 0 := by
  unfold hdB at h
  have : s.headD 0 = t.headD 0 := UInt8.toNat_inj.1 (by omega)
  cases s <;> cases t <;> simpa [at0] using this
theorem at0_ne {s t : List UInt8} (h : hdB s ≠ hdB t) : at0 s 0 ≠ at0 t 0 := fun e => h (by
  unfold hdB
  have : s.headD 0 = t.headD 0 := by cases s <;> cases t <;> simpa [at0] using e
  rw [this])
mutual
theorem entT_some : ∀ (t : Nd) (n : Nat), okT t n = true → entT t ≠ []
  | .node lab rs ks, n, h => by
    obtain ⟨_, _, _, g4, g5⟩ := okT_iff.1 h
    simp only [Nd.rows_node, Nd.kids_node, Nd.lab_node] at g4 g5
    rw [entT]
    by_cases c : rs = []
    · rw [if_pos c]
      have h2 : 2 ≤ ks.length := by rcases g4 with g | g; exact absurd c g; exact g
      have := entL_some ks _ g5 (by intro e; rw [e] at h2; simp at h2)
      simpa using this
    · rw [if_neg c]; simp
theorem entL_some : ∀ (l : List Nd) (n : Nat), kidsOk l n → l ≠ [] → entL l ≠ []
  | [], _, _, h => absurd rfl h
  | t :: r, n, h, _ => by
    have := entT_some t n (h.1 t (by simp))
    simp [entL, this]
end
theorem commonF_go (l : List Ent) (m : Nat) (hl : ∀ e ∈ l, m ≤ e.1.length) (hm : m ≤ 24) (hne : l ≠ []) (hsame : ∀ n, n < m → ∀ e ∈ l, at0 e.1 n = at0 (l.headD default).1 n)
    (hstop : (l.headD default).1.length = m ∨ m = 24 ∨ ∃ e ∈ l, e.1.length ≤ m ∨ at0 e.1 m ≠ at0 (l.headD default).1 m) : ∀ (f n : Nat), n ≤ m → m < n + f → commonF l f n = m
  | 0, n, h1, h2 => by omega
  | f + 1, n, h1, h2 => by
    have hd : (l.headD default) ∈ l := by cases l with | nil => exact absurd rfl hne | cons a r => simp
    rw [commonF]
    rcases Nat.lt_or_ge n m with hlt | hge
    · have h3 := hl _ hd
      rw [if_neg (by omega), if_pos]
      · exact commonF_go l m hl hm hne hsame hstop f (n + 1) hlt (by omega)
      · rw [List.all_eq_true]
        intro e he
        have := hl e he
        simp only [Bool.and_eq_true, decide_eq_true_eq]
        exact ⟨by omega, hsame n hlt e he⟩
    · obtain rfl : n = m := by omega
      split
      · rfl
      · rename_i c
        rw [if_neg]
        rw [List.all_eq_true]
        intro hall
        rcases hstop with h | h | ⟨e, he, h⟩
        · omega
        · omega
        · have := hall e he
          simp only [Bool.and_eq_true, decide_eq_true_eq] at this
          rcases h with h | h
          · omega
          · exact h this.2
theorem at0_pre {q s : List UInt8} {n : Nat} (h : n < q.length) : at0 (q ++ s) n = at0 q n := by
  simp [at0, List.getD_eq_getElem?_getD, List.getElem?_append_left h]
mutual
def sizeT : Nd → Nat
  | .node _ _ ks => sizeL ks + 2
def sizeL : List Nd → Nat
  | [] => 1
  | t :: r => sizeT t + sizeL r + 1
end
mutual
theorem nodeF_ent : ∀ (t : Nd) (q : Bys) (f n : Nat), okT t n = true → q.length + n ≤ 24 → sizeT t ≤ f → nodeF f (pre' q (entT t)) q.length = t
  | .node lab rs ks, q, f, n, h, hq, hf => by
    obtain ⟨g1, g2, g3, g4, g5⟩ := okT_iff.1 h
    simp only [Nd.rows_node, Nd.kids_node, Nd.lab_node] at g1 g2 g3 g4 g5
    rw [sizeT] at hf
    obtain ⟨f, rfl⟩ : ∃ k, f = k + 1 := ⟨f - 1, by omega⟩
    have hl : pre' q (entT (.node lab rs ks)) = pre' (q ++ lab) (ownB rs ++ entL ks) := by rw [entT_pre']; rfl
    have hne : pre' q (entT (.node lab rs ks)) ≠ [] := by
      have := entT_some _ _ h
      simpa [pre'] using this
    have hlen : ∀ e ∈ pre' q (entT (.node lab rs ks)), ∃ s, e.1 = (q ++ lab) ++ s := by
      rw [hl]
      intro e he
      simp only [pre', List.mem_map] at he
      obtain ⟨x, _, rfl⟩ := he
      exact ⟨x.1, rfl⟩
    have hd : ((pre' q (entT (.node lab rs ks))).headD default) ∈ pre' q (entT (.node lab rs ks)) := by
      cases hx : pre' q (entT (.node lab rs ks)) with | nil => exact absurd hx hne | cons a r => simp
    obtain ⟨s0, hs0⟩ := hlen _ hd
    have hkl : ∀ {k : Nd} {r : List Nd}, ks = k :: r → ∃ x xs, entL ks = x :: xs ∧ hdB x.1 = hdB k.lab ∧ x.1 ≠ [] := fun {k r} hk => by
      have h1 := entT_some k _ (g5.1 k (by rw [hk]; simp))
      cases hx : entT k with
      | nil => exact absurd hx h1
      | cons x xs =>
        obtain ⟨s, hs⟩ := entT_pre k x (by rw [hx]; simp)
        have hkn := (okT_iff.1 (g5.1 k (by rw [hk]; simp))).1
        exact ⟨x, xs ++ entL r, by rw [hk, entL, hx]; rfl, by rw [hs, hdB_app hkn], by rw [hs]; simp [hkn]⟩
    have hcom : commonL (pre' q (entT (.node lab rs ks))) q.length = (q ++ lab).length := by
      refine commonF_go _ _ (fun e he => ?_) (by simp; omega) hne (fun n hn e he => ?_) ?_ 25 q.length (by simp) (by simp; omega)
      · obtain ⟨s, hs⟩ := hlen e he
        rw [hs]; simp
      · obtain ⟨s, hs⟩ := hlen e he
        rw [hs, hs0, at0_pre hn, at0_pre hn]
      · by_cases c : rs = []
        · have h2 : 2 ≤ ks.length := by rcases g4 with g | g; exact absurd c g; exact g
          match ks, h2 with
          | k1 :: k2 :: r, _ =>
            obtain ⟨x, xs, e1, e2, e3⟩ := hkl rfl
            have h3 := entT_some k2 _ (g5.1 k2 (by simp))
            cases hy : entT k2 with
            | nil => exact absurd hy h3
            | cons y ys =>
              obtain ⟨s, hs⟩ := entT_pre k2 y (by rw [hy]; simp)
              have hkn := (okT_iff.1 (g5.1 k2 (by simp))).1
              have hlt : hdB k1.lab < hdB k2.lab := by have := g5.2; rw [List.pairwise_cons] at this; exact this.1 k2 (by simp)
              refine .inr (.inr ⟨((q ++ lab) ++ y.1, y.2), ?_, .inr ?_⟩)
              · rw [hl]
                refine List.mem_map_of_mem (f := fun e : Ent => ((q ++ lab) ++ e.1, e.2)) ?_
                rw [List.mem_append]; right
                simp [entL, hy]
              · have e0 : (pre' q (entT (.node lab rs (k1 :: k2 :: r)))).headD default = ((q ++ lab) ++ x.1, x.2) := by
                  rw [hl, c]
                  simp [ownB, e1, pre']
                rw [e0]
                simp only
                rw [at0_app, at0_app]
                refine at0_ne ?_
                rw [e2, hs, hdB_app hkn]; omega
        · left
          rw [hl, ownB, if_neg c]
          simp [pre']
    have hcl : (((pre' q (entT (.node lab rs ks))).headD default).1.take (q ++ lab).length).drop q.length = lab := by
      rw [hs0, List.take_left']
      · simp
      · rfl
    rw [nodeF, hcom, hcl]
    by_cases c : rs = []
    · have h2 : 2 ≤ ks.length := by rcases g4 with g | g; exact absurd c g; exact g
      have hks : ks ≠ [] := by intro e; rw [e] at h2; simp at h2
      obtain ⟨k, r, hk⟩ : ∃ k r, ks = k :: r := by cases ks with | nil => exact absurd rfl hks | cons k r => exact ⟨k, r, rfl⟩
      obtain ⟨x, xs, e1, e2, e3⟩ := hkl hk
      have e0 : pre' q (entT (.node lab rs ks)) = pre' (q ++ lab) (entL ks) := by rw [hl, c]; rfl
      rw [if_neg, e0, belowF_ent ks (q ++ lab) f (n - lab.length) g5 (by simp; omega) (by omega), c]
      rw [e0, e1]
      simp only [pre', List.map_cons, List.headD_cons, List.length_append]
      have := List.length_pos_iff.2 e3
      omega
    · have e0 : pre' q (entT (.node lab rs ks)) = (q ++ lab, rs) :: pre' (q ++ lab) (entL ks) := by
        rw [hl, ownB, if_neg c]; simp [pre']
      rw [e0]
      simp only [List.headD_cons, List.tail_cons, if_true]
      rw [belowF_ent ks (q ++ lab) f (n - lab.length) g5 (by simp; omega) (by omega)]
theorem belowF_ent : ∀ (l : List Nd) (q : Bys) (f n : Nat), kidsOk l n → q.length + n ≤ 24 → sizeL l ≤ f → belowF f (pre' q (entL l)) q.length = l
  | [], q, f, n, _, _, hf => by
    rw [sizeL] at hf
    obtain ⟨f, rfl⟩ : ∃ k, f = k + 1 := ⟨f - 1, by omega⟩
    rfl
  | t :: r, q, f, n, h, hq, hf => by
    rw [sizeL] at hf
    obtain ⟨f, rfl⟩ : ∃ k, f = k + 1 := ⟨f - 1, by omega⟩
    have hT := h.1 t (by simp)
    have hne := (okT_iff.1 hT).1
    have hr : kidsOk r n := kidsOk_sub h (List.sublist_cons_self _ _)
    have hlt : ∀ k ∈ r, hdB t.lab < hdB k.lab := by have := h.2; rw [List.pairwise_cons] at this; exact this.1
    have h1 := entT_some t n hT
    have hA : ∀ e ∈ pre' q (entT t), at0 e.1 q.length = at0 t.lab 0 := fun e he => by
      simp only [pre', List.mem_map] at he
      obtain ⟨x, hx, rfl⟩ := he
      obtain ⟨s, hs⟩ := entT_pre t x hx
      simp only
      rw [at0_app]
      exact at0_hd (by rw [hs, hdB_app hne])
    have hB : ∀ e ∈ pre' q (entL r), at0 e.1 q.length ≠ at0 t.lab 0 := fun e he => by
      simp only [pre', List.mem_map] at he
      obtain ⟨x, hx, rfl⟩ := he
      obtain ⟨_, k, hk, hs⟩ := entL_hd hr hx
      simp only
      rw [at0_app]
      refine at0_ne ?_
      have := hlt k hk
      omega
    have hp : pre' q (entL (t :: r)) = pre' q (entT t) ++ pre' q (entL r) := by rw [entL, pre'_app]
    cases hx : pre' q (entT t) with
    | nil => simp [pre'] at hx; exact absurd hx h1
    | cons e es =>
      have hg : grp (pre' q (entL (t :: r))) (at0 e.1 q.length) q.length = (pre' q (entT t)).length := by
        rw [hp]
        unfold grp
        rw [hA e (by rw [hx]; simp), List.takeWhile_append_of_pos (fun a ha => by simpa using hA a ha)]
        have : (pre' q (entL r)).takeWhile (fun e => decide (at0 e.1 q.length = at0 t.lab 0)) = [] := by
          cases hy : pre' q (entL r) with
          | nil => rfl
          | cons y ys => rw [List.takeWhile_cons_of_neg (by simpa using hB y (by rw [hy]; simp))]
        rw [this]; simp
      have hc : pre' q (entL (t :: r)) = e :: (es ++ pre' q (entL r)) := by rw [hp, hx]; rfl
      have hgo : belowF (f + 1) (pre' q (entL (t :: r))) q.length = nodeF f ((pre' q (entL (t :: r))).take (pre' q (entT t)).length) q.length :: belowF f ((pre' q (entL (t :: r))).drop (pre' q (entT t)).length) q.length := by
        rw [← hg, hc, belowF]
      rw [hgo, hp, List.take_left', List.drop_left', nodeF_ent t q f n hT hq (by omega), belowF_ent r q f n hr hq (by omega)]
      · rfl
      · rfl
end
end Go.Proofs.YtgaabjmbnomimaaDoor
namespace Go.Proofs.YtgaabjmbnomimaaDoor
open Go Go.Ev
theorem s149_ok : CSpecOk E 149 s149 := fun a h cs vals h' he hc => by
  unfold s149 at he
  split at he <;> simp only [Option.some.injEq, Prod.mk.injEq, reduceCtorEq] at he
  rename_i nl tt xs
  obtain ⟨rfl, rfl, rfl⟩ := he
  simp only [allT, Bool.and_true, decide_eq_true_eq] at hc
  exact call_ext (f := x149) rfl (by simp only [x149, if_pos hc])
def s117 : CSpec := fun a h => match a, h with
  | [.agg [.c (.str s), .c (.sl 5 rn rt xs), .c (.sl 3 kn kt ys)]], [] => some ([decide (ys.length < 4294967296)], [.agg [.c (.str s), .c (.sl 5 rn rt xs), .buf 0 0 0 ys.length]], [.mem 3 0 ys])
  | _, _ => none
theorem f117 (s : Bys) (rn : OBo) (rt : Bool) (xs : LLC) (kn : OBo) (kt : Bool) (ys : LLC) (h : ys.length < 4294967296) :
    call E 117 [.agg [.c (.str s), .c (.sl 5 rn rt xs), .c (.sl 3 kn kt ys)]] [] = some ([.agg [.c (.str s), .c (.sl 5 rn rt xs), .buf 0 0 0 ys.length]], [.mem 3 0 ys]) := by
  refine call_of (E := E) (sh := sh) (ct := ctOf [(149, s149)]) (na := 1) (m := 0) (ctOf_cons s149_ok ctOf_nil) rfl rfl rfl rfl rfl rfl ?_
  rw [t117]
  simp only [ld_br, ld_chk', ld_leaf, fd_br, fd_chk', fd_leaf, decide_true, decide_eq_true_eq, if_true, Int.toNat_natCast, Int.natCast_nonneg, Int.ofNat_lt, Int.ofNat_le, Bool.false_eq_true, if_false, bne_iff_ne, beq_iff_eq, ne_eq, not_true_eq_false, not_false_eq_true, Bool.not_eq_true', decide_eq_false_iff_not, reduceCtorEq, rows_length, pcs_length, er_ok, er_ok', ep_ok, ep_ok', dr_er, dp_ep, isRows_rows, isPcs_pcs, toRows_rows, toPcs_pcs, rows_take, rows_drop, pcs_take, pcs_drop, rows_append, pcs_append, ints_length, isInts_ints, toInts_ints, ei_i, ei_ok, mk_headD, ints_take, ints_drop, ints_append, ints_snoc, ints_snoc', List.take_length, Nat.zero_add, Nat.le_refl, er_a, er_b, er_k, er_n, er_s, er_v, ep_a, ep_b, ep_hk, ep_hn, ep_hs, ep_wk, ep_wn, ep_ws, h]
theorem s117_ok : CSpecOk E 117 s117 := by
  intro a h cs vals h' he hc
  unfold s117 at he
  split at he <;> simp only [Option.some.injEq, Prod.mk.injEq, reduceCtorEq] at he
  rename_i s rn rt xs kn kt ys
  obtain ⟨rfl, rfl, rfl⟩ := he
  simp only [allT, Bool.and_true, Bool.and_eq_true, decide_eq_true_eq] at hc
  skip
  exact f117 s rn rt xs kn kt ys hc
theorem sharedL_drop {a b : List UInt8} {k : Nat} (ha : k < a.length) (hb : k < b.length) : sharedL (a.drop k) (b.drop k) = if a[k] = b[k] then sharedL (a.drop (k + 1)) (b.drop (k + 1)) + 1 else 0 := by
  rw [List.drop_eq_getElem_cons ha, List.drop_eq_getElem_cons hb, sharedL]
theorem sharedL_end {a b : List UInt8} {k : Nat} (h : ¬ (k < a.length ∧ k < b.length)) : sharedL (a.drop k) (b.drop k) = 0 := by
  by_cases ha : k < a.length
  · have e : b.drop k = [] := List.drop_eq_nil_of_le (by omega)
    rw [e]
    cases a.drop k <;> rfl
  · have e : a.drop k = [] := List.drop_eq_nil_of_le (by omega)
    rw [e]; rfl
theorem byteEq (a b : UInt8) : ((a.toNat : Int) == (b.toNat : Int)) = decide (a = b) := by
  rw [Bool.eq_iff_iff]
  simp only [beq_iff_eq, decide_eq_true_eq]
  exact ⟨fun h => UInt8.toNat_inj.1 (by omega), fun h => by rw [h]⟩
theorem f119 (a b : Bys) (ha : a.length < 9223372036854775807) : call E 119 [.c (.str a), .c (.str b)] [] = some ([V.i (sharedL a b)], []) := by
  have hct : (ctOf []).ok E := ctOf_nil
  refine call_of (E := E) (sh := sh) (ct := ctOf []) (na := 2) (m := 0) hct rfl rfl rfl rfl rfl rfl ?_
  rw [t119]
  refine fd_post hct (by kernel_rfl) rfl (loops_post hct (b := b119_0) (ι := Nat) (fun k => s119_0 a b k) (fun k => sharedL (a.drop k) (b.drop k) + k = sharedL a b ∧ k ≤ a.length) (fun k => a.length - k) _ ?_ 0 ⟨rfl, Nat.zero_le _⟩)
  rintro k ⟨hi, hk⟩
  rw [t119_0]
  have stop : sharedL (a.drop k) (b.drop k) = 0 → ∃ x : Ex × Fr × Hp, x = x119_0x0 a b (k : Int) ∧ p119.fd (p119.fkx 0 x) = some (R.out [V.i (sharedL a b)] []) := fun h => by
    refine ⟨_, rfl, ?_⟩
    rw [k119_0x0, fd_leaf, ← hi, h, Nat.zero_add]
  by_cases c1 : k < a.length
  · by_cases c2 : k < b.length
    · simp only [ld_br, ld_chk', ld_leaf, fd_br, fd_chk', fd_leaf, decide_true, decide_eq_true_eq, if_true, Int.toNat_natCast, Int.natCast_nonneg, Int.ofNat_lt, Int.ofNat_le, Bool.false_eq_true, if_false, bne_iff_ne, beq_iff_eq, ne_eq, not_true_eq_false, not_false_eq_true, Bool.not_eq_true', decide_eq_false_iff_not, reduceCtorEq, rows_length, pcs_length, er_ok, er_ok', ep_ok, ep_ok', dr_er, dp_ep, isRows_rows, isPcs_pcs, toRows_rows, toPcs_pcs, rows_take, rows_drop, pcs_take, pcs_drop, rows_append, pcs_append, ints_length, isInts_ints, toInts_ints, ei_i, ei_ok, mk_headD, ints_take, ints_drop, ints_append, ints_snoc, ints_snoc', List.take_length, Nat.zero_add, Nat.le_refl, er_a, er_b, er_k, er_n, er_s, er_v, ep_a, ep_b, ep_hk, ep_hn, ep_hs, ep_wk, ep_wn, ep_ws, c1, c2, List.getD_eq_getElem?_getD, List.getElem?_eq_getElem c1, List.getElem?_eq_getElem c2, Option.getD_some, byteEq]
      rw [sharedL_drop c1 c2] at hi
      by_cases c3 : a[k] = b[k]
      · rw [if_pos c3] at hi
        exact .inl ⟨k + 1, ⟨by omega, by omega⟩, by omega, by rw [if_pos c3, wrap_succ (by omega)]⟩
      · rw [if_neg c3] at hi
        obtain ⟨x, rfl, hx⟩ := stop (by rw [sharedL_drop c1 c2, if_neg c3])
        exact .inr ⟨_, by simp, hx, by rw [if_neg c3]⟩
    · obtain ⟨x, rfl, hx⟩ := stop (sharedL_end (by omega))
      exact .inr ⟨_, by simp, hx, by simp only [ld_br, ld_chk', ld_leaf, fd_br, fd_chk', fd_leaf, decide_true, decide_eq_true_eq, if_true, Int.toNat_natCast, Int.natCast_nonneg, Int.ofNat_lt, Int.ofNat_le, Bool.false_eq_true, if_false, bne_iff_ne, beq_iff_eq, ne_eq, not_true_eq_false, not_false_eq_true, Bool.not_eq_true', decide_eq_false_iff_not, reduceCtorEq, rows_length, pcs_length, er_ok, er_ok', ep_ok, ep_ok', dr_er, dp_ep, isRows_rows, isPcs_pcs, toRows_rows, toPcs_pcs, rows_take, rows_drop, pcs_take, pcs_drop, rows_append, pcs_append, ints_length, isInts_ints, toInts_ints, ei_i, ei_ok, mk_headD, ints_take, ints_drop, ints_append, ints_snoc, ints_snoc', List.take_length, Nat.zero_add, Nat.le_refl, er_a, er_b, er_k, er_n, er_s, er_v, ep_a, ep_b, ep_hk, ep_hn, ep_hs, ep_wk, ep_wn, ep_ws, c1, c2]⟩
  · obtain ⟨x, rfl, hx⟩ := stop (sharedL_end (by omega))
    exact .inr ⟨_, by simp, hx, by simp only [ld_br, ld_chk', ld_leaf, fd_br, fd_chk', fd_leaf, decide_true, decide_eq_true_eq, if_true, Int.toNat_natCast, Int.natCast_nonneg, Int.ofNat_lt, Int.ofNat_le, Bool.false_eq_true, if_false, bne_iff_ne, beq_iff_eq, ne_eq, not_true_eq_false, not_false_eq_true, Bool.not_eq_true', decide_eq_false_iff_not, reduceCtorEq, rows_length, pcs_length, er_ok, er_ok', ep_ok, ep_ok', dr_er, dp_ep, isRows_rows, isPcs_pcs, toRows_rows, toPcs_pcs, rows_take, rows_drop, pcs_take, pcs_drop, rows_append, pcs_append, ints_length, isInts_ints, toInts_ints, ei_i, ei_ok, mk_headD, ints_take, ints_drop, ints_append, ints_snoc, ints_snoc', List.take_length, Nat.zero_add, Nat.le_refl, er_a, er_b, er_k, er_n, er_s, er_v, ep_a, ep_b, ep_hk, ep_hn, ep_hs, ep_wk, ep_wn, ep_ws, c1]⟩
def s119 : CSpec := fun a h => match a, h with
  | [.c (.str a), .c (.str b)], [] => some ([decide (a.length < 9223372036854775807)], [V.i (sharedL a b)], [])
  | _, _ => none
theorem s119_ok : CSpecOk E 119 s119 := by
  intro a h cs vals h' he hc
  unfold s119 at he
  split at he <;> simp only [Option.some.injEq, Prod.mk.injEq, reduceCtorEq] at he
  obtain ⟨rfl, rfl, rfl⟩ := he
  simp only [allT, Bool.and_true, Bool.and_eq_true, decide_eq_true_eq] at hc
  skip
  exact f119 _ _ hc
@[reducible] def VT (t : Nd) : V := .agg [.c (.str t.lab), .c (.sl 5 none false (rows t.rows)), .c (.sl 3 none false (encL t.kids))]
def s120 : CSpec := fun a h => match a, h with
  | [.agg [.c (.str s), .c (.sl 5 none false xs), .c (.sl 3 none false ys)], .c (.int .i64 n)], [] => some ([isRows xs, isL ys, decide (0 ≤ n), decide (n ≤ s.length)], [VT (splitN (.node s (toRows xs) (decL ys)) n.toNat)], [])
  | _, _ => none
theorem f120 (s : Bys) (rs : List Row) (ks : List Nd) (n : Int) (h0 : 0 ≤ n) (h1 : n ≤ s.length) :
    call E 120 [.agg [.c (.str s), .c (.sl 5 none false (rows rs)), .c (.sl 3 none false (encL ks))], V.i n] [] = some ([VT (splitN (.node s rs ks) n.toNat)], []) := by
  refine call_of (E := E) (sh := sh) (ct := ctOf []) (na := 2) (m := 0) ctOf_nil rfl rfl rfl rfl rfl rfl ?_
  rw [t120]
  have h2 : n.toNat ≤ s.length := by omega
  simp only [ld_br, ld_chk', ld_leaf, fd_br, fd_chk', fd_leaf, decide_true, decide_eq_true_eq, if_true, Int.toNat_natCast, Int.natCast_nonneg, Int.ofNat_lt, Int.ofNat_le, Bool.false_eq_true, if_false, bne_iff_ne, beq_iff_eq, ne_eq, not_true_eq_false, not_false_eq_true, Bool.not_eq_true', decide_eq_false_iff_not, reduceCtorEq, rows_length, pcs_length, er_ok, er_ok', ep_ok, ep_ok', dr_er, dp_ep, isRows_rows, isPcs_pcs, toRows_rows, toPcs_pcs, rows_take, rows_drop, pcs_take, pcs_drop, rows_append, pcs_append, ints_length, isInts_ints, toInts_ints, ei_i, ei_ok, mk_headD, ints_take, ints_drop, ints_append, ints_snoc, ints_snoc', List.take_length, Nat.zero_add, Nat.le_refl, er_a, er_b, er_k, er_n, er_s, er_v, ep_a, ep_b, ep_hk, ep_hn, ep_hs, ep_wk, ep_wn, ep_ws, h0, h2]
  simp only [VT, splitN, Nd.lab_node, Nd.rows_node, Nd.kids_node, encL, Nd.enc]
  rfl
theorem s120_ok : CSpecOk E 120 s120 := by
  intro a h cs vals h' he hc
  unfold s120 at he
  split at he <;> simp only [Option.some.injEq, Prod.mk.injEq, reduceCtorEq] at he
  rename_i s xs ys n
  obtain ⟨rfl, rfl, rfl⟩ := he
  simp only [allT, Bool.and_true, Bool.and_eq_true, decide_eq_true_eq] at hc
  obtain ⟨h1, h2, h3, h4⟩ := hc
  obtain ⟨rs, rfl⟩ := rows_ex h1
  obtain ⟨ks, rfl⟩ := isL_ex h2
  simp only [toRows_rows, decL_enc]
  exact f120 s rs ks n h3 h4
def s123b : CSpec := fun a h => match a, h with
  | [.buf 0 0 0 len, .c (.int .u8 b), .fn 124 []], [.mem 3 0 xs] => some ([isL xs, decide (len = xs.length), labsOk (decL xs), decide (0 ≤ b), decide (b ≤ 255), decide (xs.length < 4294967296)], [V.i (posK (decL xs) b), V.b (hitK (decL xs) b)], [.mem 3 0 xs])
  | _, _ => none
theorem enc_len (t : Nd) : t.enc.length = 3 := by rw [Nd.enc_eq]; rfl
theorem enc_take (t : Nd) : t.enc.take 3 = t.enc := by rw [Nd.enc_eq]; rfl
theorem f123b (l : List Nd) (b : Int) (hl : labsOk l = true) (h0 : 0 ≤ b) (h1 : b ≤ 255) (hlen : l.length < 4294967296) : call E 123 [.buf 0 0 0 l.length, .c (.int .u8 b), .fn 124 []] [.mem 3 0 (encL l)] = some ([V.i (posK l b), V.b (hitK l b)], [.mem 3 0 (encL l)]) := by
  have hct : (ctOf [(124, s124)]).ok E := ctOf_cons s124_ok ctOf_nil
  refine call_of (E := E) (sh := sh) (ct := ctOf [(124, s124)]) (na := 3) (m := 1) hct rfl rfl rfl rfl rfl rfl ?_
  show p123b.fd (p123b.ft _ _) = _
  rw [t123b]
  refine fd_post hct (by kernel_rfl) rfl (loops_post (p := p123b) hct (b := b123b_0) (ι := Nat × Nat) (fun i => s123b_0 l.length (encL l) b l.length i.1 i.2) (fun i => i.1 ≤ i.2 ∧ i.2 ≤ l.length ∧ bsK l b (i.2 - i.1) i.1 i.2 = posK l b) (fun i => i.2 - i.1) _ ?_ (0, l.length) ⟨Nat.zero_le _, Nat.le_refl _, rfl⟩)
  rintro ⟨lo, hi⟩ ⟨g1, g2, g3⟩
  dsimp only at g1 g2 g3 ⊢
  rw [t123b_0]
  by_cases hlt : lo < hi
  · have hm : (lo + hi) / 2 < l.length := by omega
    left
    rw [half_wrap (by omega)]
    have hne := labs_mem hl hm
    simp only [nd_ok, nd_lab, nd_rows, nd_kids, encL_length, isL_enc, decL_enc, wrap_hd, hd_pos, ld_br, ld_chk', ld_leaf, fd_br, fd_chk', fd_leaf, decide_true, decide_eq_true_eq, if_true, Int.toNat_natCast, Int.natCast_nonneg, Int.ofNat_lt, Int.ofNat_le, Bool.false_eq_true, if_false, bne_iff_ne, beq_iff_eq, ne_eq, not_true_eq_false, not_false_eq_true, Bool.not_eq_true', decide_eq_false_iff_not, reduceCtorEq, rows_length, pcs_length, er_ok, er_ok', ep_ok, ep_ok', dr_er, dp_ep, isRows_rows, isPcs_pcs, toRows_rows, toPcs_pcs, rows_take, rows_drop, pcs_take, pcs_drop, rows_append, pcs_append, ints_length, isInts_ints, toInts_ints, ei_i, ei_ok, mk_headD, ints_take, ints_drop, ints_append, ints_snoc, ints_snoc', List.take_length, Nat.zero_add, Nat.le_refl, er_a, er_b, er_k, er_n, er_s, er_v, ep_a, ep_b, ep_hk, ep_hn, ep_hs, ep_wk, ep_wn, ep_ws, Int.ofNat_lt, hlt, hm, encL_getD hm, hne, h0, h1, enc_len, enc_take]
    have e : hi - lo = (hi - lo - 1) + 1 := by omega
    rw [e, bsK, if_pos hlt, getD_at' hm] at g3
    by_cases hb : hdB l[(lo + hi) / 2].lab < b
    · rw [if_pos hb] at g3
      refine ⟨((lo + hi) / 2 + 1, hi), ⟨by dsimp only; omega, g2, ?_⟩, by dsimp only; omega, ?_⟩
      · rw [← g3]; exact bsK_fuel l b _ _ _ _ (by omega) (by omega)
      · rw [wrap_succ (by omega), if_pos (show hdB l[(lo + hi) / 2].lab - b < 0 by omega)]
    · rw [if_neg hb] at g3
      refine ⟨(lo, (lo + hi) / 2), ⟨by dsimp only; omega, by dsimp only; omega, ?_⟩, by dsimp only; omega, ?_⟩
      · rw [← g3]; exact bsK_fuel l b _ _ _ _ (by omega) (by omega)
      · rw [if_neg (show ¬ hdB l[(lo + hi) / 2].lab - b < 0 by omega)]
  · obtain rfl : lo = hi := by omega
    right
    rw [bsK_end l b _ (by omega)] at g3
    refine ⟨x123b_0x0 l.length (encL l) b l.length lo lo, by simp, ?_, by simp only [nd_ok, nd_lab, nd_rows, nd_kids, encL_length, isL_enc, decL_enc, wrap_hd, hd_pos, ld_br, ld_chk', ld_leaf, fd_br, fd_chk', fd_leaf, decide_true, decide_eq_true_eq, if_true, Int.toNat_natCast, Int.natCast_nonneg, Int.ofNat_lt, Int.ofNat_le, Bool.false_eq_true, if_false, bne_iff_ne, beq_iff_eq, ne_eq, not_true_eq_false, not_false_eq_true, Bool.not_eq_true', decide_eq_false_iff_not, reduceCtorEq, rows_length, pcs_length, er_ok, er_ok', ep_ok, ep_ok', dr_er, dp_ep, isRows_rows, isPcs_pcs, toRows_rows, toPcs_pcs, rows_take, rows_drop, pcs_take, pcs_drop, rows_append, pcs_append, ints_length, isInts_ints, toInts_ints, ei_i, ei_ok, mk_headD, ints_take, ints_drop, ints_append, ints_snoc, ints_snoc', List.take_length, Nat.zero_add, Nat.le_refl, er_a, er_b, er_k, er_n, er_s, er_v, ep_a, ep_b, ep_hk, ep_hn, ep_hs, ep_wk, ep_wn, ep_ws, Int.lt_irrefl]⟩
    rw [k123b_0x0]
    simp only [nd_ok, nd_lab, nd_rows, nd_kids, encL_length, isL_enc, decL_enc, wrap_hd, hd_pos, ld_br, ld_chk', ld_leaf, fd_br, fd_chk', fd_leaf, decide_true, decide_eq_true_eq, if_true, Int.toNat_natCast, Int.natCast_nonneg, Int.ofNat_lt, Int.ofNat_le, Bool.false_eq_true, if_false, bne_iff_ne, beq_iff_eq, ne_eq, not_true_eq_false, not_false_eq_true, Bool.not_eq_true', decide_eq_false_iff_not, reduceCtorEq, rows_length, pcs_length, er_ok, er_ok', ep_ok, ep_ok', dr_er, dp_ep, isRows_rows, isPcs_pcs, toRows_rows, toPcs_pcs, rows_take, rows_drop, pcs_take, pcs_drop, rows_append, pcs_append, ints_length, isInts_ints, toInts_ints, ei_i, ei_ok, mk_headD, ints_take, ints_drop, ints_append, ints_snoc, ints_snoc', List.take_length, Nat.zero_add, Nat.le_refl, er_a, er_b, er_k, er_n, er_s, er_v, ep_a, ep_b, ep_hk, ep_hn, ep_hs, ep_wk, ep_wn, ep_ws, Int.ofNat_lt, g3, hitK]
    by_cases hr : posK l b < l.length
    · have hne := labs_mem hl hr
      have e : (hdB l[posK l b].lab - b == 0) = decide (hdB l[posK l b].lab = b) := by
        rw [Bool.eq_iff_iff]; simp; omega
      simp only [hr, if_true, encL_getD hr, nd_ok, nd_lab, nd_rows, nd_kids, encL_length, isL_enc, decL_enc, wrap_hd, hd_pos, ld_br, ld_chk', ld_leaf, fd_br, fd_chk', fd_leaf, decide_true, decide_eq_true_eq, if_true, Int.toNat_natCast, Int.natCast_nonneg, Int.ofNat_lt, Int.ofNat_le, Bool.false_eq_true, if_false, bne_iff_ne, beq_iff_eq, ne_eq, not_true_eq_false, not_false_eq_true, Bool.not_eq_true', decide_eq_false_iff_not, reduceCtorEq, rows_length, pcs_length, er_ok, er_ok', ep_ok, ep_ok', dr_er, dp_ep, isRows_rows, isPcs_pcs, toRows_rows, toPcs_pcs, rows_take, rows_drop, pcs_take, pcs_drop, rows_append, pcs_append, ints_length, isInts_ints, toInts_ints, ei_i, ei_ok, mk_headD, ints_take, ints_drop, ints_append, ints_snoc, ints_snoc', List.take_length, Nat.zero_add, Nat.le_refl, er_a, er_b, er_k, er_n, er_s, er_v, ep_a, ep_b, ep_hk, ep_hn, ep_hs, ep_wk, ep_wn, ep_ws, hne, h0, h1, e, getD_at' hr, Bool.true_and, enc_len, enc_take]
    · simp only [hr, if_false, decide_false, Bool.false_and]
theorem s123b_ok : CSpecOk E 123 s123b := by
  intro a h cs vals h' he hc
  unfold s123b at he
  split at he <;> simp only [Option.some.injEq, Prod.mk.injEq, reduceCtorEq] at he
  rename_i len b xs
  obtain ⟨rfl, rfl, rfl⟩ := he
  simp only [allT, Bool.and_true, Bool.and_eq_true, decide_eq_true_eq] at hc
  obtain ⟨h1, rfl, h2, h3, h4, h5⟩ := hc
  obtain ⟨l, rfl⟩ := isL_ex h1
  simp only [decL_enc, encL_length] at *
  exact f123b l b h2 h3 h4 h5
end Go.Proofs.YtgaabjmbnomimaaDoor
namespace Go.Proofs.YtgaabjmbnomimaaDoor
open Go Go.Ev
-- cse
noncomputable abbrev p66b : Par := par E sh (ctOf [(123, s123b)]) 66 2 1
theorem t66b (len : Nat) (xs : LLC) (b : Int) : p66b.ft ([V.buf 0 0 0 len, V.c (C.int IntKind.u8 b)]) ([O.mem 3 0 xs]) = (Tr.chk (isL xs) (Tr.chk (decide (len = xs.length)) (Tr.chk (labsOk (decL xs)) (Tr.chk (decide (0 ≤ b)) (Tr.chk (decide (b ≤ 255)) (Tr.chk (decide (xs.length < 4294967296)) (Tr.leaf (R.out [V.c (C.int IntKind.i64 (↑(posK (decL xs) b) : Int)), V.c (C.bool (hitK (decL xs) b))] [O.mem 3 0 xs])))))))) := by kernel_rfl
def s66b : CSpec := fun a h => match a, h with
  | [.buf 0 0 0 len, .c (.int .u8 b)], [.mem 3 0 xs] => some ([isL xs, decide (len = xs.length), labsOk (decL xs), decide (0 ≤ b), decide (b ≤ 255), decide (xs.length < 4294967296)], [V.i (posK (decL xs) b), V.b (hitK (decL xs) b)], [.mem 3 0 xs])
  | _, _ => none
noncomputable abbrev p121 : Par := par E sh (ctOf [(117, s117)]) 121 1 0
theorem t121 (s : Bys) (xs : LLC) (ys : LLC) : p121.ft ([V.agg [V.c (C.str s), V.c (C.sl 5 none false xs), V.c (C.sl 3 none false ys)]]) ([]) = (Tr.br (decide (0 < (↑xs.length : Int))) (Tr.leaf (R.out [V.agg [V.c (C.str s), V.c (C.sl 5 none false xs), V.c (C.sl 3 none false ys)], V.c (C.bool true)] [])) (Tr.br (decide (1 < (↑ys.length : Int))) (Tr.leaf (R.out [V.agg [V.c (C.str s), V.c (C.sl 5 none false xs), V.c (C.sl 3 none false ys)], V.c (C.bool true)] [])) (Tr.br ((↑ys.length : Int) == 0) (Tr.leaf (R.out [V.agg [V.c (C.str []), V.c (C.sl 5 none false []), V.c (C.sl 3 none false [])], V.c (C.bool false)] [])) (Tr.chk true (Tr.chk true (Tr.chk (decide (Int.toNat 0 < ys.length)) (Tr.chk (shOk [Sk.str, Sk.sl 5, Sk.sl 3] (ys.getD (Int.toNat 0) [])) (Tr.chk (decide (((ys.getD (Int.toNat 0) []).tail.tail.headD C.pnil).xs.length < 4294967296)) (Tr.chk (decide (s.length + ((ys.getD (Int.toNat 0) []).headD C.pnil).st.length < 4294967296)) (Tr.leaf (R.out [V.agg [V.c (C.str (s ++ ((ys.getD (Int.toNat 0) []).headD C.pnil).st)), V.c (C.sl 5 none false ((ys.getD (Int.toNat 0) []).tail.headD C.pnil).xs), V.c (C.sl 3 none false (List.take ((ys.getD (Int.toNat 0) []).tail.tail.headD C.pnil).xs.length ((ys.getD (Int.toNat 0) []).tail.tail.headD C.pnil).xs))], V.c (C.bool true)] []))))))))))) := by kernel_rfl
def joinB (t : Nd) : Bool := (joinN t).isSome
def joinD (t : Nd) : Nd := (joinN t).getD (.node [] [] [])
def s121 : CSpec := fun a h => match a, h with
  | [.agg [.c (.str s), .c (.sl 5 none false xs), .c (.sl 3 none false ys)]], [] => some ([isRows xs, isL ys, decide (s.length ≤ 24), decide (okL (decL ys) 24 (-1) = true)], [VT (joinD (.node s (toRows xs) (decL ys))), V.b (joinB (.node s (toRows xs) (decL ys)))], [])
  | _, _ => none
def s118 : CSpec := fun a h => match a, h with
  | [.buf 0 0 0 len, .c (.int .i64 i), .buf 1 0 0 1], [.mem 3 0 xs, .mem 3 0 [x]] => some ([decide (len = xs.length), decide (0 ≤ i), decide (i ≤ len), decide (len < 4294967294)], [.buf 0 1 0 (len + 1)], [.mem 3 1 (xs.take i.toNat ++ x.map wkC :: xs.drop i.toNat), .mem 3 0 [x.map wkC]])
  | _, _ => none
def s122 : CSpec := fun a h => match a, h with
  | [.buf 0 0 0 len, .c (.int .i64 i), .c (.int .i64 j)], [.mem 3 0 xs] => some ([decide (len = xs.length), decide (0 ≤ i), decide (i < len), decide (j = i + 1), decide (len < 4294967296)], [.buf 0 1 0 (len - 1)], [.mem 3 1 (xs.take i.toNat ++ xs.drop (i.toNat + 1))])
  | _, _ => none
variable (dd : Nat)
def s65 : CSpec := fun a h => match a, h with
  | [.agg [.c (.str s), .c (.sl 5 rn rt xs), .c (.sl 3 kn kt ys)], .c (.str p), .c (.sl 5 qn qt zs)], [] => some ([isRows xs, isL ys, isRows zs, okL (decL ys) 24 (-1), right (toRows xs), right (toRows zs), decide (s.length ≤ 24), decide (qn ≠ some true ∨ zs = []), decide (p.length < dd), decide (p.length ≤ 24)], [VT (putN (p.length + 1) (.node s (toRows xs) (decL ys)) p (toRows zs))], [])
  | _, _ => none
noncomputable abbrev p65 : Par := par E sh (ctOf [(117, s117), (68, s68), (66, s66b), (118, s118), (119, s119), (120, s120), (121, s121), (122, s122), (65, s65 dd)]) 65 3 0
abbrev c65_1 (ys : LLC) (p : Bys) := (posK (decL ys) (↑(p.getD (Int.toNat 0) 0).toNat : Int))
abbrev c65_2 (ys : LLC) (p : Bys) := (List.take 3 (ys.getD (0 + (↑(c65_1 ys p) : Int).toNat) []))
abbrev c65_3 (ys : LLC) (p : Bys) := (sharedL ((c65_2 ys p).headD C.pnil).st p)
abbrev c65_4 (ys : LLC) (p : Bys) := (splitN (Nd.node ((c65_2 ys p).headD C.pnil).st (toRows ((c65_2 ys p).tail.headD C.pnil).xs) (decL ((c65_2 ys p).tail.tail.headD C.pnil).xs)) (↑(c65_3 ys p) : Int).toNat)
abbrev c65_5 (ys : LLC) (p : Bys) := (Nd.node (c65_4 ys p).lab (toRows (rows (c65_4 ys p).rows)) (decL (encL (c65_4 ys p).kids)))
abbrev c65_6 (ys : LLC) (p : Bys) := (List.drop (↑(c65_3 ys p) : Int).toNat (List.take p.length p))
abbrev c65_7 (ys : LLC) (p : Bys) (zs : LLC) := (putN ((c65_6 ys p).length + 1) (Nd.node ((c65_2 ys p).headD C.pnil).st (toRows ((c65_2 ys p).tail.headD C.pnil).xs) (decL ((c65_2 ys p).tail.tail.headD C.pnil).xs)) (c65_6 ys p) (toRows zs))
abbrev c65_8 (ys : LLC) (p : Bys) (zs : LLC) := (putN ((c65_6 ys p).length + 1) (c65_5 ys p) (c65_6 ys p) (toRows zs))
abbrev c65_9 (ys : LLC) (p : Bys) (zs : LLC) := (Nd.node (c65_8 ys p zs).lab (toRows (rows (c65_8 ys p zs).rows)) (decL (encL (c65_8 ys p zs).kids)))
abbrev c65_10 (ys : LLC) (p : Bys) (zs : LLC) := (Nd.node (c65_7 ys p zs).lab (toRows (rows (c65_7 ys p zs).rows)) (decL (encL (c65_7 ys p zs).kids)))
abbrev c65_11 (ys : LLC) (p : Bys) (zs : LLC) := (ys.set (0 + (↑(c65_1 ys p) : Int).toNat) [C.str (joinD (c65_10 ys p zs)).lab, C.sl 5 none false (rows (joinD (c65_10 ys p zs)).rows), C.sl 3 none false (encL (joinD (c65_10 ys p zs)).kids)])
abbrev c65_12 (ys : LLC) (p : Bys) (zs : LLC) := (ys.set (0 + (↑(c65_1 ys p) : Int).toNat) [C.str (joinD (c65_9 ys p zs)).lab, C.sl 5 none false (rows (joinD (c65_9 ys p zs)).rows), C.sl 3 none false (encL (joinD (c65_9 ys p zs)).kids)])
theorem t65 (s : Bys) (rn : OBo) (rt : Bool) (xs : LLC) (kn : OBo) (kt : Bool) (ys : LLC) (p : Bys) (qn : OBo) (qt : Bool) (zs : LLC) : (p65 dd).ft ([V.agg [V.c (C.str s), V.c (C.sl 5 rn rt xs), V.c (C.sl 3 kn kt ys)], V.c (C.str p), V.c (C.sl 5 qn qt zs)]) ([]) = (Tr.chk (decide (ys.length < 4294967296)) (Tr.br (p == []) (Tr.chk (decide (zs.length < 4294967296)) (Tr.chk (decide (qn ≠ some true ∨ zs = [])) (Tr.leaf (R.out [V.agg [V.c (C.str s), V.c (C.sl 5 none false zs), V.c (C.sl 3 none false (List.take ys.length ys))]] [])))) (Tr.chk true (Tr.chk (decide (Int.toNat 0 < p.length)) (Tr.chk (isL ys) (Tr.chk (decide (ys.length = ys.length)) (Tr.chk (labsOk (decL ys)) (Tr.chk true (Tr.chk (decide ((↑(p.getD (Int.toNat 0) 0).toNat : Int) ≤ 255)) (Tr.chk (decide (ys.length < 4294967296)) (Tr.br (!hitK (decL ys) (↑(p.getD (Int.toNat 0) 0).toNat : Int)) (Tr.br (decide (0 < (↑zs.length : Int))) (Tr.chk (decide (zs.length < 4294967296)) (Tr.chk (decide (qn ≠ some true ∨ zs = [])) (Tr.chk (decide (ys.length = ys.length)) (Tr.chk true (Tr.chk (decide ((↑(c65_1 ys p) : Int) ≤ (↑ys.length : Int))) (Tr.chk (decide (ys.length < 4294967294)) (Tr.leaf (R.out [V.agg [V.c (C.str s), V.c (C.sl 5 none false xs), V.c (C.sl 3 none false (List.take (ys.length + 1) (List.take (↑(c65_1 ys p) : Int).toNat ys ++ List.map wkC (List.take 3 [C.str p, C.sl 5 none false zs, C.sl 3 (some true) true []]) :: List.drop (↑(c65_1 ys p) : Int).toNat ys)))]] [])))))))) (Tr.leaf (R.out [V.agg [V.c (C.str s), V.c (C.sl 5 none false xs), V.c (C.sl 3 none false (List.take ys.length ys))]] []))) (Tr.chk true (Tr.chk (decide ((↑(c65_1 ys p) : Int) < (↑ys.length : Int))) (Tr.chk true (Tr.chk true (Tr.chk true (Tr.chk (decide (0 + (↑(c65_1 ys p) : Int).toNat < ys.length)) (Tr.chk (decide (3 ≤ (ys.getD (0 + (↑(c65_1 ys p) : Int).toNat) []).length)) (Tr.chk (shOk [Sk.str, Sk.sl 5, Sk.sl 3] (c65_2 ys p)) (Tr.chk (decide (((c65_2 ys p).headD C.pnil).st.length < 9223372036854775807)) (Tr.br (decide ((↑(c65_3 ys p) : Int) < (↑((c65_2 ys p).headD C.pnil).st.length : Int))) (Tr.br ((↑zs.length : Int) == 0) (Tr.leaf (R.out [V.agg [V.c (C.str s), V.c (C.sl 5 none false xs), V.c (C.sl 3 none false (List.take ys.length ys))]] [])) (Tr.chk (isRows ((c65_2 ys p).tail.headD C.pnil).xs) (Tr.chk (isL ((c65_2 ys p).tail.tail.headD C.pnil).xs) (Tr.chk true (Tr.chk (decide ((↑(c65_3 ys p) : Int) ≤ (↑((c65_2 ys p).headD C.pnil).st.length : Int))) (Tr.chk true (Tr.chk (decide ((↑(c65_3 ys p) : Int).toNat ≤ p.length)) (Tr.chk (decide (p.length ≤ p.length)) (Tr.chk true (Tr.chk (isL (encL (c65_4 ys p).kids)) (Tr.chk (isRows zs) (Tr.chk (okL (decL (encL (c65_4 ys p).kids)) 24 (-1)) (Tr.chk true (Tr.chk (right (toRows zs)) (Tr.chk (decide ((c65_4 ys p).lab.length ≤ 24)) (Tr.chk (decide (qn ≠ some true ∨ zs = [])) (Tr.chk (decide ((c65_6 ys p).length < dd)) (Tr.chk (decide ((c65_6 ys p).length ≤ 24)) (Tr.chk (isRows (rows (c65_8 ys p zs).rows)) (Tr.chk (isL (encL (c65_8 ys p zs).kids)) (Tr.chk (decide ((c65_8 ys p zs).lab.length ≤ 24)) (Tr.chk (decide (okL (decL (encL (c65_8 ys p zs).kids)) 24 (-1) = true)) (Tr.chk true (Tr.chk (decide ((↑(c65_1 ys p) : Int) < (↑ys.length : Int))) (Tr.chk true (Tr.chk true (Tr.chk true (Tr.chk (decide (0 + (↑(c65_1 ys p) : Int).toNat < ys.length)) (Tr.chk true (Tr.chk (decide ((ys.getD (0 + (↑(c65_1 ys p) : Int).toNat) []).length = 3)) (Tr.br (!joinB (c65_9 ys p zs)) (Tr.chk (decide (ys.length = (c65_12 ys p zs).length)) (Tr.chk true (Tr.chk (decide ((↑(c65_1 ys p) : Int) < (↑ys.length : Int))) (Tr.chk (decide (IntKind.i64.wrap ((↑(c65_1 ys p) : Int) + 1) = (↑(c65_1 ys p) : Int) + 1)) (Tr.chk (decide (ys.length < 4294967296)) (Tr.leaf (R.out [V.agg [V.c (C.str s), V.c (C.sl 5 none false xs), V.c (C.sl 3 none false (List.take (ys.length - 1) (List.take (↑(c65_1 ys p) : Int).toNat (c65_12 ys p zs) ++ List.drop ((↑(c65_1 ys p) : Int).toNat + 1) (c65_12 ys p zs))))]] []))))))) (Tr.leaf (R.out [V.agg [V.c (C.str s), V.c (C.sl 5 none false xs), V.c (C.sl 3 none false (List.take ys.length (c65_12 ys p zs)))]] []))))))))))))))))))))))))))))))))) (Tr.chk true (Tr.chk (decide ((↑(c65_3 ys p) : Int).toNat ≤ p.length)) (Tr.chk (decide (p.length ≤ p.length)) (Tr.chk (isRows ((c65_2 ys p).tail.headD C.pnil).xs) (Tr.chk (isL ((c65_2 ys p).tail.tail.headD C.pnil).xs) (Tr.chk (isRows zs) (Tr.chk (okL (decL ((c65_2 ys p).tail.tail.headD C.pnil).xs) 24 (-1)) (Tr.chk (right (toRows ((c65_2 ys p).tail.headD C.pnil).xs)) (Tr.chk (right (toRows zs)) (Tr.chk (decide (((c65_2 ys p).headD C.pnil).st.length ≤ 24)) (Tr.chk (decide (qn ≠ some true ∨ zs = [])) (Tr.chk (decide ((c65_6 ys p).length < dd)) (Tr.chk (decide ((c65_6 ys p).length ≤ 24)) (Tr.chk (isRows (rows (c65_7 ys p zs).rows)) (Tr.chk (isL (encL (c65_7 ys p zs).kids)) (Tr.chk (decide ((c65_7 ys p zs).lab.length ≤ 24)) (Tr.chk (decide (okL (decL (encL (c65_7 ys p zs).kids)) 24 (-1) = true)) (Tr.chk true (Tr.chk (decide ((↑(c65_1 ys p) : Int) < (↑ys.length : Int))) (Tr.chk true (Tr.chk true (Tr.chk true (Tr.chk (decide (0 + (↑(c65_1 ys p) : Int).toNat < ys.length)) (Tr.chk true (Tr.chk (decide ((ys.getD (0 + (↑(c65_1 ys p) : Int).toNat) []).length = 3)) (Tr.br (!joinB (c65_10 ys p zs)) (Tr.chk (decide (ys.length = (c65_11 ys p zs).length)) (Tr.chk true (Tr.chk (decide ((↑(c65_1 ys p) : Int) < (↑ys.length : Int))) (Tr.chk (decide (IntKind.i64.wrap ((↑(c65_1 ys p) : Int) + 1) = (↑(c65_1 ys p) : Int) + 1)) (Tr.chk (decide (ys.length < 4294967296)) (Tr.leaf (R.out [V.agg [V.c (C.str s), V.c (C.sl 5 none false xs), V.c (C.sl 3 none false (List.take (ys.length - 1) (List.take (↑(c65_1 ys p) : Int).toNat (c65_11 ys p zs) ++ List.drop ((↑(c65_1 ys p) : Int).toNat + 1) (c65_11 ys p zs))))]] []))))))) (Tr.leaf (R.out [V.agg [V.c (C.str s), V.c (C.sl 5 none false xs), V.c (C.sl 3 none false (List.take ys.length (c65_11 ys p zs)))]] []))))))))))))))))))))))))))))))))))))))))))))))))) := by kernel_rfl
end Go.Proofs.YtgaabjmbnomimaaDoor
namespace Go.Proofs.YtgaabjmbnomimaaDoor
open Go Go.Ev
mutual
theorem okT_mono : ∀ (t : Nd) (n m : Nat), n ≤ m → okT t n = true → okT t m = true
  | .node lab rs ks, n, m, h, ht => by
    obtain ⟨g1, g2, g3, g4, g5⟩ := okT_iff.1 ht
    simp only [Nd.lab_node, Nd.rows_node, Nd.kids_node] at g1 g2 g3 g4 g5
    refine okT_iff.2 ⟨g1, ?_, g3, g4, kidsOk_mono ks _ _ ?_ g5⟩
    · simp only [Nd.lab_node]; omega
    · simp only [Nd.lab_node]; omega
theorem kidsOk_mono : ∀ (l : List Nd) (n m : Nat), n ≤ m → kidsOk l n → kidsOk l m
  | [], _, _, _, _ => ⟨by simp, by simp⟩
  | t :: r, n, m, h, hk => by
    have h1 := okT_mono t n m h (hk.1 t (by simp))
    have h2 := kidsOk_mono r n m h (kidsOk_sub hk (List.sublist_cons_self _ _))
    exact ⟨fun u hu => by rcases List.mem_cons.1 hu with rfl | hu; exact h1; exact h2.1 u hu, hk.2⟩
end
theorem f66b (l : List Nd) (b : Int) (hl : labsOk l = true) (h0 : 0 ≤ b) (h1 : b ≤ 255) (hlen : l.length < 4294967296) : call E 66 [.buf 0 0 0 l.length, .c (.int .u8 b)] [.mem 3 0 (encL l)] = some ([V.i (posK l b), V.b (hitK l b)], [.mem 3 0 (encL l)]) := by
  refine call_of (E := E) (sh := sh) (ct := ctOf [(123, s123b)]) (na := 2) (m := 1) (ctOf_cons s123b_ok ctOf_nil) rfl rfl rfl rfl rfl rfl ?_
  rw [t66b]
  simp only [nd_ok, nd_lab, nd_rows, nd_kids, encL_length, isL_enc, decL_enc, wrap_hd, hd_pos, ld_br, ld_chk', ld_leaf, fd_br, fd_chk', fd_leaf, decide_true, decide_eq_true_eq, if_true, Int.toNat_natCast, Int.natCast_nonneg, Int.ofNat_lt, Int.ofNat_le, Bool.false_eq_true, if_false, bne_iff_ne, beq_iff_eq, ne_eq, not_true_eq_false, not_false_eq_true, Bool.not_eq_true', decide_eq_false_iff_not, reduceCtorEq, rows_length, pcs_length, er_ok, er_ok', ep_ok, ep_ok', dr_er, dp_ep, isRows_rows, isPcs_pcs, toRows_rows, toPcs_pcs, rows_take, rows_drop, pcs_take, pcs_drop, rows_append, pcs_append, ints_length, isInts_ints, toInts_ints, ei_i, ei_ok, mk_headD, ints_take, ints_drop, ints_append, ints_snoc, ints_snoc', List.take_length, Nat.zero_add, Nat.le_refl, er_a, er_b, er_k, er_n, er_s, er_v, ep_a, ep_b, ep_hk, ep_hn, ep_hs, ep_wk, ep_wn, ep_ws, hl, h0, h1, hlen]
theorem s66b_ok : CSpecOk E 66 s66b := by
  intro a h cs vals h' he hc
  unfold s66b at he
  split at he <;> simp only [Option.some.injEq, Prod.mk.injEq, reduceCtorEq] at he
  rename_i len b xs
  obtain ⟨rfl, rfl, rfl⟩ := he
  simp only [allT, Bool.and_true, Bool.and_eq_true, decide_eq_true_eq] at hc
  obtain ⟨h1, rfl, h2, h3, h4, h5⟩ := hc
  obtain ⟨l, rfl⟩ := isL_ex h1
  simp only [decL_enc, encL_length] at *
  exact f66b l b h2 h3 h4 h5
theorem f121 (s : Bys) (rs : List Row) (ks : List Nd) (hs : s.length ≤ 24) (hk : okL ks 24 (-1) = true) :
    call E 121 [.agg [.c (.str s), .c (.sl 5 none false (rows rs)), .c (.sl 3 none false (encL ks))]] [] = some ([VT (joinD (.node s rs ks)), V.b (joinB (.node s rs ks))], []) := by
  refine call_of (E := E) (sh := sh) (ct := ctOf [(117, s117)]) (na := 1) (m := 0) (ctOf_cons s117_ok ctOf_nil) rfl rfl rfl rfl rfl rfl ?_
  rw [t121]
  by_cases c1 : rs = []
  · subst c1
    match ks, hk with
    | [], _ => simp [nd_ok, nd_lab, nd_rows, nd_kids, encL_length, isL_enc, decL_enc, wrap_hd, hd_pos, ld_br, ld_chk', ld_leaf, fd_br, fd_chk', fd_leaf, decide_true, decide_eq_true_eq, if_true, Int.toNat_natCast, Int.natCast_nonneg, Int.ofNat_lt, Int.ofNat_le, Bool.false_eq_true, if_false, bne_iff_ne, beq_iff_eq, ne_eq, not_true_eq_false, not_false_eq_true, Bool.not_eq_true', decide_eq_false_iff_not, reduceCtorEq, rows_length, pcs_length, er_ok, er_ok', ep_ok, ep_ok', dr_er, dp_ep, isRows_rows, isPcs_pcs, toRows_rows, toPcs_pcs, rows_take, rows_drop, pcs_take, pcs_drop, rows_append, pcs_append, ints_length, isInts_ints, toInts_ints, ei_i, ei_ok, mk_headD, ints_take, ints_drop, ints_append, ints_snoc, ints_snoc', List.take_length, Nat.zero_add, Nat.le_refl, er_a, er_b, er_k, er_n, er_s, er_v, ep_a, ep_b, ep_hk, ep_hn, ep_hs, ep_wk, ep_wn, ep_ws, joinD, joinB, joinN, Nd.rows_node, Nd.kids_node, encL, rows]; rfl
    | [k], hk =>
      have hl := okT_lab (okL_mem hk k (by simp)).1
      have hlen := okL_len hl.2.2 (by omega)
      have e0 : (encL [k]).getD (Int.toNat 0) [] = k.enc := rfl
      have h1 : s.length + k.lab.length < 4294967296 := by omega
      have h2 : k.kids.length < 4294967296 := by omega
      have e1 : ¬ (0 : Int) < (rows ([] : List Row)).length := by decide
      have e2 : ¬ (1 : Int) < (encL [k]).length := by simp
      have e3 : (((encL [k]).length : Int) == 0) = false := rfl
      have e4 : Int.toNat 0 < (encL [k]).length := by simp
      simp only [fd_br, fd_chk', fd_leaf, e0, e1, e2, e3, e4, nd_ok, nd_lab, nd_rows, nd_kids, encL_length, h1, h2, decide_true, decide_false, Bool.false_eq_true, if_true, if_false]
      rw [← encL_length k.kids, List.take_length]
      rfl
    | k :: k2 :: r, hk =>
      have e2 : (1 : Int) < (encL (k :: k2 :: r)).length := by simp only [encL_length, List.length_cons]; omega
      have e1 : ¬ (0 : Int) < (rows ([] : List Row)).length := by decide
      simp only [fd_br, fd_leaf, e1, e2, decide_true, decide_false, Bool.false_eq_true, if_true, if_false]
      simp [joinD, joinB, joinN, Nd.rows_node, Nd.kids_node, Nd.lab_node]
  · have e1 : (0 : Int) < (rows rs).length := by have := List.length_pos_iff.2 c1; simp only [rows_length]; omega
    simp only [fd_br, fd_leaf, e1, decide_true, if_true]
    simp [joinD, joinB, joinN, Nd.rows_node, Nd.kids_node, Nd.lab_node, c1]
theorem s121_ok : CSpecOk E 121 s121 := by
  intro a h cs vals h' he hc
  unfold s121 at he
  split at he <;> simp only [Option.some.injEq, Prod.mk.injEq, reduceCtorEq] at he
  rename_i s xs ys
  obtain ⟨rfl, rfl, rfl⟩ := he
  simp only [allT, Bool.and_true, Bool.and_eq_true, decide_eq_true_eq] at hc
  obtain ⟨h1, h2, h3, h4⟩ := hc
  obtain ⟨rs, rfl⟩ := rows_ex h1
  obtain ⟨ks, rfl⟩ := isL_ex h2
  simp only [toRows_rows, decL_enc] at *
  exact f121 s rs ks h3 h4
theorem s118_ok : CSpecOk E 118 s118 := fun a h cs vals h' he hc => by
  unfold s118 at he
  split at he <;> simp only [Option.some.injEq, Prod.mk.injEq, reduceCtorEq] at he
  rename_i len i xs x
  obtain ⟨rfl, rfl, rfl⟩ := he
  simp only [allT, Bool.and_true, Bool.and_eq_true, decide_eq_true_eq] at hc
  obtain ⟨h1, h2, h3, h4⟩ := hc
  exact call_ext (f := x118) rfl (by simp only [x118, x118s]; rw [if_pos ⟨trivial, trivial, h1, h2, h3, h4⟩])
theorem s122_ok : CSpecOk E 122 s122 := fun a h cs vals h' he hc => by
  unfold s122 at he
  split at he <;> simp only [Option.some.injEq, Prod.mk.injEq, reduceCtorEq] at he
  rename_i len i j xs
  obtain ⟨rfl, rfl, rfl⟩ := he
  simp only [allT, Bool.and_true, Bool.and_eq_true, decide_eq_true_eq] at hc
  obtain ⟨h1, h2, h3, h4, h5⟩ := hc
  exact call_ext (f := x122) rfl (by simp only [x122]; rw [if_pos ⟨trivial, h1, h2, h3, h4, h5⟩])
theorem encL_set {l : List Nd} {i : Nat} (k : Nd) : (encL l).set i k.enc = encL (l.set i k) := by simp [encL_map, List.map_set]
theorem encL_take (l : List Nd) (n : Nat) : (encL l).take n = encL (l.take n) := by simp [encL_map, List.map_take]
theorem encL_drop (l : List Nd) (n : Nat) : (encL l).drop n = encL (l.drop n) := by simp [encL_map, List.map_drop]
theorem encL_app (a b : List Nd) : encL a ++ encL b = encL (a ++ b) := by simp [encL_map]
theorem encL_all (l : List Nd) : (encL l).take l.length = encL l := by rw [← encL_length l, List.take_length]
theorem putN_fuel : ∀ (f g : Nat) (t : Nd) (p : Bys) (rs : List Row), p.length < f → p.length < g → kidsOk t.kids 24 → right t.rows = true → p.length ≤ 24 → putN f t p rs = putN g t p rs
  | 0, g, t, p, rs, h, _, _, _, _ => by omega
  | f + 1, 0, t, p, rs, _, h, _, _, _ => by omega
  | f + 1, g + 1, t, [], rs, _, _, _, _, _ => rfl
  | f + 1, g + 1, t, b :: q, rs, hf, hg, hk, hr, hp => by
    simp only [putN]
    split
    · rename_i c1
      split
      · rfl
      · unfold hitK at c1
        simp only [Bool.and_eq_true, decide_eq_true_eq] at c1
        obtain ⟨c1, c2⟩ := c1
        rw [getD_at' c1] at c2
        have hko := hk.1 _ (List.getElem_mem c1)
        have hsp : 0 < sharedL t.kids[posK t.kids (b.toNat : Int)].lab (b :: q) := shared_pos (okT_iff.1 hko).1 (by simp) (by rw [c2, hdB_cons])
        obtain ⟨d1, d2, d3, d4, d5, d6, d7⟩ := downN_ok hko hsp
        rw [getD_at' c1]
        rw [putN_fuel f g _ _ rs (by rw [List.length_drop]; simp only [List.length_cons] at hf hg ⊢; omega) (by rw [List.length_drop]; simp only [List.length_cons] at hf hg ⊢; omega) (kidsOk_mono _ _ _ (by omega) d6) d5 (by rw [List.length_drop]; omega)]
    · rfl
theorem wk_new (p : Bys) (qs : List Row) : List.map wkC (List.take 3 [C.str p, C.sl 5 none false (rows qs), C.sl 3 (some true) true []]) = (Nd.node p qs []).enc := by
  rw [Nd.enc]; rfl
theorem enc_mk (t : Nd) : [C.str t.lab, C.sl 5 none false (rows t.rows), C.sl 3 none false (encL t.kids)] = t.enc := (Nd.enc_eq t).symm
theorem kidsOk_labs {l : List Nd} {n : Nat} (h : kidsOk l n) : labsOk l = true := okL_labs (okL_iff'.2 h)
set_option maxHeartbeats 1000000 in
theorem f65 (dd : Nat) (ih : CSpecOk E 65 (s65 dd)) (s : Bys) (rn : OBo) (rt : Bool) (rs : List Row) (kn : OBo) (kt : Bool) (ks : List Nd) (p : Bys) (qn : OBo) (qt : Bool) (qs : List Row)
    (hk : okL ks 24 (-1) = true) (hr : right rs = true) (hq : right qs = true) (hs : s.length ≤ 24) (hn : qn ≠ some true ∨ rows qs = []) (hd : p.length < dd + 1) (hp : p.length ≤ 24) :
    call E 65 [.agg [.c (.str s), .c (.sl 5 rn rt (rows rs)), .c (.sl 3 kn kt (encL ks))], .c (.str p), .c (.sl 5 qn qt (rows qs))] [] = some ([VT (putN (p.length + 1) (.node s rs ks) p qs)], []) := by
  have hct : (ctOf [(117, s117), (68, s68), (66, s66b), (118, s118), (119, s119), (120, s120), (121, s121), (122, s122), (65, s65 dd)]).ok E :=
    ctOf_cons s117_ok (ctOf_cons s68_ok (ctOf_cons s66b_ok (ctOf_cons s118_ok (ctOf_cons s119_ok (ctOf_cons s120_ok (ctOf_cons s121_ok (ctOf_cons s122_ok (ctOf_cons ih ctOf_nil))))))))
  refine call_of (E := E) (sh := sh) (ct := ctOf [(117, s117), (68, s68), (66, s66b), (118, s118), (119, s119), (120, s120), (121, s121), (122, s122), (65, s65 dd)]) (na := 3) (m := 0) hct rfl rfl rfl rfl rfl rfl ?_
  show (p65 dd).fd ((p65 dd).ft _ _) = _
  have hkK := okL_iff'.1 hk
  have hlen := okL_len hk (by omega)
  have hl1 : ks.length < 4294967294 := by omega
  have hl2 : ks.length < 4294967296 := by omega
  have hql := right_len4 hq
  have hq1 : qs.length < 4294967296 := by omega
  rw [t65]
  cases p with
  | nil =>
    have hnil : (([] : Bys) == []) = true := rfl
    simp only [fd_br, fd_chk', fd_leaf, hnil, encL_length, rows_length, hl2, hq1, hn, encL_all, decide_true, if_true]
    rfl
  | cons b q =>
    have hne : (b :: q == []) = false := rfl
    have hB : ((((b :: q).getD (Int.toNat 0) 0).toNat : Nat) : Int) = (b.toNat : Int) := rfl
    have hB2 : (b.toNat : Int) ≤ 255 := by have := b.toNat_lt; omega
    have h0p : Int.toNat 0 < (b :: q).length := by simp
    have hlabs := kidsOk_labs hkK
    have e1 : c65_1 (encL ks) (b :: q) = posK ks (b.toNat : Int) := by unfold c65_1; rw [decL_enc, hB]
    have hple := posK_le ks (b.toNat : Int)
    have hput : putN ((b :: q).length + 1) (.node s rs ks) (b :: q) qs = if hitK ks (b.toNat : Int) = true then
        if sharedL (ks.getD (posK ks (b.toNat : Int)) default).lab (b :: q) < (ks.getD (posK ks (b.toNat : Int)) default).lab.length ∧ qs = [] then .node s rs ks
        else setN (.node s rs ks) (posK ks (b.toNat : Int)) (joinN (putN (q.length + 1) (downN (ks.getD (posK ks (b.toNat : Int)) default) (b :: q)) ((b :: q).drop (sharedL (ks.getD (posK ks (b.toNat : Int)) default).lab (b :: q))) qs))
      else if qs = [] then .node s rs ks else .node s rs (ks.take (posK ks (b.toNat : Int)) ++ .node (b :: q) qs [] :: ks.drop (posK ks (b.toNat : Int))) := rfl
    rw [hput]
    by_cases c1 : hitK ks (b.toNat : Int) = true
    case neg =>
      rw [if_neg c1]
      rw [Bool.not_eq_true] at c1
      simp only [fd_br, fd_chk', fd_leaf, hne, h0p, hB, hB2, hl1, hl2, hq1, hlabs, e1, c1, encL_length, isL_enc, decL_enc, rows_length, decide_true, if_true, Bool.false_eq_true, if_false, Bool.not_false]
      by_cases c2 : qs = []
      · subst c2
        simp only [List.length_nil, Int.natCast_zero, Int.lt_irrefl, decide_false, Bool.false_eq_true, if_false, if_true, fd_leaf, encL_all]
        rfl
      · have c3 : (0 : Int) < qs.length := by have := List.length_pos_iff.2 c2; omega
        have c4 : ((posK ks (b.toNat : Int) : Nat) : Int) ≤ ks.length := by omega
        simp only [c2, c3, c4, if_true, if_false, decide_true, hn, fd_chk', fd_leaf, Int.toNat_natCast, wk_new, encL_take, encL_drop]
        rw [← encL, encL_app, show ks.length + 1 = (ks.take (posK ks (b.toNat : Int)) ++ Nd.node (b :: q) qs [] :: ks.drop (posK ks (b.toNat : Int))).length by simp; omega, encL_all]
        simp only [VT, Nd.lab_node, Nd.rows_node, Nd.kids_node]
    case pos =>
      rw [if_pos c1]
      have c1' := c1
      unfold hitK at c1
      simp only [Bool.and_eq_true, decide_eq_true_eq] at c1
      obtain ⟨c1, c2⟩ := c1
      have hi : 0 + (((posK ks (b.toNat : Int) : Nat) : Int)).toNat = posK ks (b.toNat : Int) := by omega
      have hcut : (b :: q).take (b :: q).length = b :: q := List.take_length
      rw [getD_at' c1] at c2 ⊢
      have hko := hkK.1 _ (List.getElem_mem c1)
      obtain ⟨g1, g2, g3, g4, g5⟩ := okT_iff.1 hko
      have hsp : 0 < sharedL ks[posK ks (b.toNat : Int)].lab (b :: q) := shared_pos g1 (by simp) (by rw [c2, hdB_cons])
      obtain ⟨s1, s2, s3⟩ := shared_split ks[posK ks (b.toNat : Int)].lab (b :: q)
      have e8 : c65_2 (encL ks) (b :: q) = ks[posK ks (b.toNat : Int)].enc := by unfold c65_2; rw [e1, hi, encL_getD c1, enc_take]
      have e12 : c65_3 (encL ks) (b :: q) = sharedL ks[posK ks (b.toNat : Int)].lab (b :: q) := by unfold c65_3; rw [e8, nd_lab]
      have e6 : c65_4 (encL ks) (b :: q) = splitN ks[posK ks (b.toNat : Int)] (sharedL ks[posK ks (b.toNat : Int)].lab (b :: q)) := by
        unfold c65_4; rw [e8, e12, nd_lab, nd_rows, nd_kids, toRows_rows, decL_enc, Nd.eta, Int.toNat_natCast]
      have e2 : c65_5 (encL ks) (b :: q) = splitN ks[posK ks (b.toNat : Int)] (sharedL ks[posK ks (b.toNat : Int)].lab (b :: q)) := by
        unfold c65_5; rw [e6, toRows_rows, decL_enc, Nd.eta]
      have e3 : c65_6 (encL ks) (b :: q) = (b :: q).drop (sharedL ks[posK ks (b.toNat : Int)].lab (b :: q)) := by unfold c65_6; rw [e12, hcut, Int.toNat_natCast]
      have hdl : ((b :: q).drop (sharedL ks[posK ks (b.toNat : Int)].lab (b :: q))).length < dd := by rw [List.length_drop]; omega
      have hdl2 : ((b :: q).drop (sharedL ks[posK ks (b.toNat : Int)].lab (b :: q))).length ≤ 24 := by rw [List.length_drop]; omega
      have hdl3 : ((b :: q).drop (sharedL ks[posK ks (b.toNat : Int)].lab (b :: q))).length < q.length + 1 := by rw [List.length_drop, List.length_cons]; omega
      obtain ⟨d1, d2, d3, d4, d5, d6, d7⟩ := downN_ok hko hsp
      have d8 := kidsOk_mono _ _ 24 (by omega) d6
      obtain ⟨r1, r2, r3, _, r5⟩ := putN_ok (((b :: q).drop (sharedL ks[posK ks (b.toNat : Int)].lab (b :: q))).length + 1) _ _ qs 24 (Nat.lt_succ_self _) d8 hdl2 hq d5
      have e10 : sharedL ks[posK ks (b.toNat : Int)].lab (b :: q) < ks[posK ks (b.toNat : Int)].lab.length → c65_8 (encL ks) (b :: q) (rows qs) = putN (((b :: q).drop (sharedL ks[posK ks (b.toNat : Int)].lab (b :: q))).length + 1) (downN ks[posK ks (b.toNat : Int)] (b :: q)) ((b :: q).drop (sharedL ks[posK ks (b.toNat : Int)].lab (b :: q))) qs := fun h => by
        unfold c65_8; rw [e3, e2, toRows_rows]; unfold downN; rw [if_pos h]
      have e4 : ¬ sharedL ks[posK ks (b.toNat : Int)].lab (b :: q) < ks[posK ks (b.toNat : Int)].lab.length → c65_7 (encL ks) (b :: q) (rows qs) = putN (((b :: q).drop (sharedL ks[posK ks (b.toNat : Int)].lab (b :: q))).length + 1) (downN ks[posK ks (b.toNat : Int)] (b :: q)) ((b :: q).drop (sharedL ks[posK ks (b.toNat : Int)].lab (b :: q))) qs := fun h => by
        unfold c65_7; rw [e3, e8, nd_lab, nd_rows, nd_kids, toRows_rows, decL_enc, Nd.eta, toRows_rows]; unfold downN; rw [if_neg h]
      rw [putN_fuel (q.length + 1) (((b :: q).drop (sharedL ks[posK ks (b.toNat : Int)].lab (b :: q))).length + 1) _ _ qs hdl3 (Nat.lt_succ_self _) d8 d5 hdl2]
      have hlab9 : ks[posK ks (b.toNat : Int)].lab.length < 9223372036854775807 := by omega
      have hlabu : (putN (((b :: q).drop (sharedL ks[posK ks (b.toNat : Int)].lab (b :: q))).length + 1) (downN ks[posK ks (b.toNat : Int)] (b :: q)) ((b :: q).drop (sharedL ks[posK ks (b.toNat : Int)].lab (b :: q))) qs).lab.length ≤ 24 := by rw [r1, d4]; omega
      have e5 : sharedL ks[posK ks (b.toNat : Int)].lab (b :: q) < ks[posK ks (b.toNat : Int)].lab.length → c65_9 (encL ks) (b :: q) (rows qs) = putN (((b :: q).drop (sharedL ks[posK ks (b.toNat : Int)].lab (b :: q))).length + 1) (downN ks[posK ks (b.toNat : Int)] (b :: q)) ((b :: q).drop (sharedL ks[posK ks (b.toNat : Int)].lab (b :: q))) qs := fun h => by
        unfold c65_9; rw [e10 h, toRows_rows, decL_enc, Nd.eta]
      have e11 : ¬ sharedL ks[posK ks (b.toNat : Int)].lab (b :: q) < ks[posK ks (b.toNat : Int)].lab.length → c65_10 (encL ks) (b :: q) (rows qs) = putN (((b :: q).drop (sharedL ks[posK ks (b.toNat : Int)].lab (b :: q))).length + 1) (downN ks[posK ks (b.toNat : Int)] (b :: q)) ((b :: q).drop (sharedL ks[posK ks (b.toNat : Int)].lab (b :: q))) qs := fun h => by
        unfold c65_10; rw [e4 h, toRows_rows, decL_enc, Nd.eta]
      generalize putN (((b :: q).drop (sharedL ks[posK ks (b.toNat : Int)].lab (b :: q))).length + 1) (downN ks[posK ks (b.toNat : Int)] (b :: q)) ((b :: q).drop (sharedL ks[posK ks (b.toNat : Int)].lab (b :: q))) qs = u at *
      have hku := okL_iff'.2 r3
      have c9 : ((posK ks (b.toNat : Int) : Nat) : Int) < ks.length := by omega
      have w9 : IntKind.wrap .i64 (((posK ks (b.toNat : Int) : Nat) : Int) + 1) = ((posK ks (b.toNat : Int) : Nat) : Int) + 1 := by rw [wrap_same (by omega) (by omega)]
      have hs3 : (ks[posK ks (b.toNat : Int)].lab.length : Int) = ks[posK ks (b.toNat : Int)].lab.length := rfl
      -- how it ends
      have fin : ∀ X : List (List C), X = (encL ks).set (posK ks (b.toNat : Int)) (joinD u).enc → (if joinB u = true then some (R.out [V.agg [V.c (.str s), V.c (.sl 5 none false (rows rs)), V.c (.sl 3 none false (List.take ks.length X))]] [])
          else some (R.out [V.agg [V.c (.str s), V.c (.sl 5 none false (rows rs)), V.c (.sl 3 none false (List.take (ks.length - 1) (List.take (posK ks (b.toNat : Int)) X ++ List.drop (posK ks (b.toNat : Int) + 1) X)))]] [])) = some (R.out [VT (setN (Nd.node s rs ks) (posK ks (b.toNat : Int)) (joinN u))] []) := by
        rintro X rfl
        rw [encL_set]
        unfold joinB joinD
        cases joinN u with
        | none =>
          simp only [Option.isSome_none, Bool.false_eq_true, if_false, Option.getD_none, setN, VT, Nd.lab_node, Nd.rows_node, Nd.kids_node, encL_take, encL_drop, encL_app]
          rw [List.take_set_of_le (Nat.le_refl _), List.drop_set_of_lt (Nat.lt_succ_self _), List.take_of_length_le (by simp; omega)]
        | some k =>
          simp only [Option.isSome_some, if_true, Option.getD_some, setN, VT, Nd.lab_node, Nd.rows_node, Nd.kids_node]
          rw [encL_take, List.take_of_length_le (by simp)]
      have w3 : ∀ t : Nd, ([C.str t.lab, C.sl 5 none false (rows t.rows), C.sl 3 none false (encL t.kids)]).length = 3 := fun _ => rfl
      simp only [fd_br, fd_chk', fd_leaf, hne, h0p, hB, hB2, hl1, hl2, hq1, hlabs, e1, c1', c1, encL_length, isL_enc, decL_enc, rows_length, decide_true, if_true, Bool.false_eq_true, if_false, Bool.not_true, hi, c9, encL_getD c1, enc_len, Nat.le_refl,
        e8, nd_ok, nd_lab, nd_rows, nd_kids, hlab9, e12, Int.ofNat_lt, Int.ofNat_le, isRows_rows]
      have hN : ((sharedL ks[posK ks (b.toNat : Int)].lab (b :: q) : Nat) : Int).toNat ≤ (b :: q).length := by omega
      have hN2 : ((sharedL ks[posK ks (b.toNat : Int)].lab (b :: q) : Nat) : Int) ≤ ks[posK ks (b.toNat : Int)].lab.length := by omega
      have hI : (((posK ks (b.toNat : Int) : Nat) : Int)).toNat = posK ks (b.toNat : Int) := by omega
      have hkk := okL_iff'.2 (kidsOk_mono _ _ 24 (by omega) g5)
      have hrk : right (toRows (rows ks[posK ks (b.toNat : Int)].rows)) = true := by rw [toRows_rows]; exact g3
      have hrq : right (toRows (rows qs)) = true := by rw [toRows_rows]; exact hq
      have en : ∀ X : List (List C), (if joinB u = true then some (R.out [V.agg [V.c (.str s), V.c (.sl 5 none false (rows rs)), V.c (.sl 3 none false (List.take ks.length X))]] [])
          else some (R.out [V.agg [V.c (.str s), V.c (.sl 5 none false (rows rs)), V.c (.sl 3 none false (List.take (ks.length - 1) (List.take (posK ks (b.toNat : Int)) X ++ List.drop (posK ks (b.toNat : Int) + 1) X)))]] [])) =
          if (!joinB u) = true then some (R.out [V.agg [V.c (.str s), V.c (.sl 5 none false (rows rs)), V.c (.sl 3 none false (List.take (ks.length - 1) (List.take (posK ks (b.toNat : Int)) X ++ List.drop (posK ks (b.toNat : Int) + 1) X)))]] [])
          else some (R.out [V.agg [V.c (.str s), V.c (.sl 5 none false (rows rs)), V.c (.sl 3 none false (List.take ks.length X))]] []) := fun X => by cases joinB u <;> rfl
      by_cases c3 : sharedL ks[posK ks (b.toNat : Int)].lab (b :: q) < ks[posK ks (b.toNat : Int)].lab.length
      · have e12 : c65_12 (encL ks) (b :: q) (rows qs) = (encL ks).set (posK ks (b.toNat : Int)) (joinD u).enc := by unfold c65_12; rw [e1, hi, e5 c3, enc_mk]
        have hsl : (splitN ks[posK ks (b.toNat : Int)] (sharedL ks[posK ks (b.toNat : Int)].lab (b :: q))).lab.length ≤ 24 := by simp only [splitN, Nd.lab_node, List.length_take]; omega
        have hdn : downN ks[posK ks (b.toNat : Int)] (b :: q) = splitN ks[posK ks (b.toNat : Int)] (sharedL ks[posK ks (b.toNat : Int)].lab (b :: q)) := by unfold downN; rw [if_pos c3]
        rw [hdn] at d5 d8
        have hsk := okL_iff'.2 d8
        by_cases c4 : qs = []
        · have c5 : ((qs.length : Int) == 0) = true := by simp [c4]
          simp only [c3, c4, c5, and_self, if_true, decide_true, encL_all, List.length_nil]
          rfl
        · have c5 : ((qs.length : Int) == 0) = false := by
            have := List.length_pos_iff.2 c4
            simp; omega
          simp only [c3, c4, c5, and_false, if_true, if_false, decide_true, Bool.false_eq_true, fd_br, fd_chk', fd_leaf, hN, hN2, s2, hkk, hrk, hrq, e6, hsk, hsl, hn, e3, hdl, hdl2, e10 c3, e5 c3, hlabu, hku, e12, w9, hI, isL_enc, isRows_rows, decL_enc, toRows_rows, d5, hq, List.length_set, encL_length]
          rw [← en]
          exact fin _ rfl
      · have e12 : c65_11 (encL ks) (b :: q) (rows qs) = (encL ks).set (posK ks (b.toNat : Int)) (joinD u).enc := by unfold c65_11; rw [e1, hi, e11 c3, enc_mk]
        simp only [c3, false_and, if_true, if_false, decide_true, decide_false, Bool.false_eq_true, fd_br, fd_chk', fd_leaf, hN, hN2, hkk, hrk, hrq, g2, hn, e3, hdl, hdl2, e4 c3, e11 c3, hlabu, hku, e12, w9, hI, isL_enc, isRows_rows, decL_enc, toRows_rows, g3, hq, List.length_set, encL_length]
        rw [← en]
        exact fin _ rfl
theorem s65_ok : ∀ d, CSpecOk E 65 (s65 d)
  | 0 => by
    intro a h cs vals h' he hc
    unfold s65 at he
    split at he <;> simp only [Option.some.injEq, Prod.mk.injEq, reduceCtorEq] at he
    obtain ⟨rfl, rfl, rfl⟩ := he
    simp [allT] at hc
  | d + 1 => by
    intro a h cs vals h' he hc
    unfold s65 at he
    split at he <;> simp only [Option.some.injEq, Prod.mk.injEq, reduceCtorEq] at he
    rename_i s rn rt xs kn kt ys p qn qt zs
    obtain ⟨rfl, rfl, rfl⟩ := he
    simp only [allT, Bool.and_true, Bool.and_eq_true, decide_eq_true_eq] at hc
    obtain ⟨h1, h2, h3, h4, h5, h6, h7, h8, h9, h10⟩ := hc
    obtain ⟨rs, rfl⟩ := rows_ex h1
    obtain ⟨ks, rfl⟩ := isL_ex h2
    obtain ⟨qs, rfl⟩ := rows_ex h3
    simp only [toRows_rows, decL_enc] at *
    exact f65 d (s65_ok d) s rn rt rs kn kt ks p qn qt qs h4 h5 h6 h7 h8 h9 h10
end Go.Proofs.YtgaabjmbnomimaaDoor
namespace Go.Proofs.YtgaabjmbnomimaaDoor
open Go Go.Ev
-- cse
noncomputable abbrev p63 : Par := par E sh (ctOf []) 63 1 0
theorem t63 (p : Bys) : p63.ft ([V.c (C.str p)]) ([]) = (Tr.br (!p == []) (Tr.leaf (R.out [V.c (C.bool (decide ((↑p.length : Int) ≤ 24)))] [])) (Tr.leaf (R.out [V.c (C.bool false)] []))) := by kernel_rfl
def isPath (p : Bys) : Bool := decide (p ≠ []) && decide (p.length ≤ 24)
def s63 : CSpec := fun a h => match a, h with
  | [.c (.str p)], [] => some ([], [V.b (isPath p)], [])
  | _, _ => none
noncomputable abbrev p82 : Par := par E sh (ctOf []) 82 1 0
theorem t82 (p : Bys) : p82.ft ([V.c (C.str p)]) ([]) = (Tr.leaf (R.out [V.c (C.bool true)] [])) := by kernel_rfl
def s82 : CSpec := fun a h => match a, h with
  | [.c (.str p)], [] => some ([], [V.b true], [])
  | _, _ => none
noncomputable abbrev p134 : Par := par E sh (ctOf []) 134 3 0
theorem t134 (s : Bys) (rn : OBo) (rt : Bool) (xs : LLC) (kn : OBo) (kt : Bool) (ys : LLC) (q : Bys) : p134.ft ([V.agg [V.c (C.str s), V.c (C.sl 5 rn rt xs), V.c (C.sl 3 kn kt ys)], V.c (C.str q), V.fn 82 []]) ([]) = (Tr.leaf (R.out [V.fn 166 [V.ptr 1 0 0 0, V.ptr 0 0 0 0, V.ptr 2 0 0 0]] [O.box [V.c (C.str s), V.c (C.sl 5 rn rt xs), V.c (C.sl 3 kn kt ys)], O.box [V.c (C.str q)], O.box [V.fn 82 []]])) := by kernel_rfl
variable (dd : Nat)
mutual
def countT : Nd → Nat
  | .node _ _ ks => countL ks + 1
def countL : List Nd → Nat
  | [] => 0
  | t :: r => countT t + countL r
end
def s84 : CSpec := fun a h => match a, h with
  | [.agg [.c (.str s), .c (.sl 5 rn rt xs), .c (.sl 3 kn kt ys)]], [] => some ([isRows xs, isL ys, decide (depL (decL ys) < dd), decide (countL (decL ys) < 1000000000)], [V.i (countT (.node s (toRows xs) (decL ys)))], [])
  | _, _ => none
noncomputable abbrev p84 : Par := par E sh (ctOf [(84, s84 dd)]) 84 1 0
abbrev s84_0 (kn : OBo) (kt : Bool) (ys : LLC) (i3 : Int) (i8 : Int) (i9 : Int) : Fr × Hp := ([(3, V.c (C.int IntKind.i64 i3)), (7, V.c (C.sl 3 kn kt ys)), (8, V.c (C.int IntKind.i64 i8)), (9, V.c (C.int IntKind.i64 i9))], [])
noncomputable abbrev b84_0 : Code := loopAt (codeOf E (84)) 0
abbrev x84_0x0 (kn : OBo) (kt : Bool) (ys : LLC) (i3 : Int) (i8 : Int) (i9 : Int) : Ex × Fr × Hp := (Ex.exit 0, [(3, V.c (C.int IntKind.i64 i3)), (7, V.c (C.sl 3 kn kt ys)), (8, V.c (C.int IntKind.i64 i8)), (9, V.c (C.int IntKind.i64 i9)), (10, V.c (C.bool false))], [])
theorem t84_0 (kn : OBo) (kt : Bool) (ys : LLC) (i3 : Int) (i8 : Int) (i9 : Int) : (p84 dd).lts b84_0 (s84_0 kn kt ys i3 i8 i9) = (Tr.br (decide (i9 < i8)) (Tr.chk (decide (0 ≤ i9)) (Tr.chk true (Tr.chk (decide (i9.toNat < ys.length)) (Tr.chk (shOk [Sk.str, Sk.sl 5, Sk.sl 3] (ys.getD i9.toNat [])) (Tr.chk (isRows ((ys.getD i9.toNat []).tail.headD C.pnil).xs) (Tr.chk (isL ((ys.getD i9.toNat []).tail.tail.headD C.pnil).xs) (Tr.chk (decide (depL (decL ((ys.getD i9.toNat []).tail.tail.headD C.pnil).xs) < dd)) (Tr.chk (decide (countL (decL ((ys.getD i9.toNat []).tail.tail.headD C.pnil).xs) < 1000000000)) (Tr.leaf (R.s (s84_0 kn kt ys (IntKind.i64.wrap (i3 + (↑(countT (Nd.node ((ys.getD i9.toNat []).headD C.pnil).st (toRows ((ys.getD i9.toNat []).tail.headD C.pnil).xs) (decL ((ys.getD i9.toNat []).tail.tail.headD C.pnil).xs))) : Int))) i8 (IntKind.i64.wrap (i9 + 1))))))))))))) (Tr.leaf (R.x (x84_0x0 kn kt ys i3 i8 i9)))) := by kernel_rfl
theorem k84_0x0 (dd : Nat) (kn : OBo) (kt : Bool) (ys : LLC) (i3 : Int) (i8 : Int) (i9 : Int) : (p84 dd).fkx 0 (x84_0x0 kn kt ys i3 i8 i9) = (Tr.leaf (R.out [V.c (C.int IntKind.i64 i3)] [])) := by kernel_rfl
theorem t84 (s : Bys) (rn : OBo) (rt : Bool) (xs : LLC) (kn : OBo) (kt : Bool) (ys : LLC) : (p84 dd).ft ([V.agg [V.c (C.str s), V.c (C.sl 5 rn rt xs), V.c (C.sl 3 kn kt ys)]]) ([]) = (Tr.ls 0 (s84_0 kn kt ys (1) ((↑ys.length : Int)) (0))) := by kernel_rfl
noncomputable abbrev p36 : Par := par E sh (ctOf [(28, s28), (84, s84 dd)]) 36 1 0
theorem t36 (s : Bys) (rn : OBo) (rt : Bool) (xs : LLC) (kn : OBo) (kt : Bool) (ys : LLC) : (p36 dd).ft ([V.agg [V.c (C.str s), V.c (C.sl 5 rn rt xs), V.c (C.sl 3 kn kt ys)]]) ([]) = (Tr.chk (isRows xs) (Tr.chk (isL ys) (Tr.br (checkT (Nd.node s (toRows xs) (decL ys)) != 0) (Tr.leaf (R.out [V.c (C.int IntKind.i64 0)] [])) (Tr.chk (isRows xs) (Tr.chk (isL ys) (Tr.chk (decide (depL (decL ys) < dd)) (Tr.chk (decide (countL (decL ys) < 1000000000)) (Tr.leaf (R.out [V.c (C.int IntKind.i64 (↑(countT (Nd.node s (toRows xs) (decL ys))) : Int))] []))))))))) := by kernel_rfl
end Go.Proofs.YtgaabjmbnomimaaDoor
namespace Go.Proofs.YtgaabjmbnomimaaDoor
open Go Go.Ev
theorem f63 (p : Bys) : call E 63 [.c (.str p)] [] = some ([V.b (isPath p)], []) := by
  refine call_of (E := E) (sh := sh) (ct := ctOf []) (na := 1) (m := 0) ctOf_nil rfl rfl rfl rfl rfl rfl ?_
  rw [t63]; unfold isPath
  cases p with
  | nil => rfl
  | cons b q =>
    have h : (b :: q == []) = false := rfl
    simp only [fd_br, fd_leaf, h, Bool.not_false, if_true, ne_eq, reduceCtorEq, not_false_eq_true, decide_true, Bool.true_and]
    have : (decide (((b :: q).length : Int) ≤ 24)) = decide ((b :: q).length ≤ 24) := by
      rw [Bool.eq_iff_iff]; simp only [decide_eq_true_eq]; omega
    rw [this]
theorem s63_ok : CSpecOk E 63 s63 := by
  intro a h cs vals h' he hc
  unfold s63 at he
  split at he <;> simp only [Option.some.injEq, Prod.mk.injEq, reduceCtorEq] at he
  obtain ⟨rfl, rfl, rfl⟩ := he
  exact f63 _
theorem f82 (p : Bys) : call E 82 [.c (.str p)] [] = some ([V.b true], []) := by
  refine call_of (E := E) (sh := sh) (ct := ctOf []) (na := 1) (m := 0) ctOf_nil rfl rfl rfl rfl rfl rfl ?_
  rw [t82]; rfl
theorem s82_ok : CSpecOk E 82 s82 := by
  intro a h cs vals h' he hc
  unfold s82 at he
  split at he <;> simp only [Option.some.injEq, Prod.mk.injEq, reduceCtorEq] at he
  obtain ⟨rfl, rfl, rfl⟩ := he
  exact f82 _
def putP (t : Nd) (p : Bys) (rs : List Row) : Nd × Int := if okR t = true ∧ isPath p = true ∧ right rs = true then (putR t p rs, 0) else (.node [] [] [], 2)
def s25 : CSpec := fun a h => match a, h with
  | [.agg [.c (.str s), .c (.sl 5 rn rt xs), .c (.sl 3 kn kt ys)], .c (.str p), .c (.sl 5 qn qt zs)], [] => some ([isRows xs, isL ys, isRows zs, decide (qn ≠ some true ∨ zs = [])], [VT (putP (.node s (toRows xs) (decL ys)) p (toRows zs)).1, V.i (putP (.node s (toRows xs) (decL ys)) p (toRows zs)).2], [])
  | _, _ => none
theorem checkT_ne (t : Nd) : (checkT t != 0) = !okR t := by
  unfold checkT; cases okR t <;> rfl
theorem countT_eq (t : Nd) : countT t = countL t.kids + 1 := by cases t; rw [countT]; rfl
theorem countL_mem : ∀ {l : List Nd} {t : Nd}, t ∈ l → countT t ≤ countL l
  | x :: r, t, h => by
    rw [countL]
    rcases List.mem_cons.1 h with rfl | h
    · omega
    · have := countL_mem h; omega
theorem countL_take_le (l : List Nd) (k : Nat) : countL (l.take k) ≤ countL l := by
  induction l generalizing k with
  | nil => simp [countL]
  | cons t r ih => cases k with
    | zero => simp [countL]
    | succ k => simp only [List.take_succ_cons, countL]; have := ih k; omega
theorem countL_app (a b : List Nd) : countL (a ++ b) = countL a + countL b := by
  induction a with
  | nil => simp [countL]
  | cons t r ih => simp only [List.cons_append, countL, ih]; omega
theorem f84 (dd : Nat) (ih : CSpecOk E 84 (s84 dd)) (s : Bys) (rn : OBo) (rt : Bool) (rs : List Row) (kn : OBo) (kt : Bool) (ks : List Nd) (hd : depL ks < dd + 1) (hc : countL ks < 1000000000) :
    call E 84 [.agg [.c (.str s), .c (.sl 5 rn rt (rows rs)), .c (.sl 3 kn kt (encL ks))]] [] = some ([V.i (countT (.node s rs ks))], []) := by
  have hct : (ctOf [(84, s84 dd)]).ok E := ctOf_cons ih ctOf_nil
  refine call_of (E := E) (sh := sh) (ct := ctOf [(84, s84 dd)]) (na := 1) (m := 0) hct rfl rfl rfl rfl rfl rfl ?_
  show (p84 dd).fd ((p84 dd).ft _ _) = _
  rw [t84, encL_length]
  have hkl : ks.length ≤ countL ks := by
    clear hd hc
    induction ks with
    | nil => simp
    | cons t r ih => rw [countL, countT_eq, List.length_cons]; omega
  refine fd_post hct (by kernel_rfl) rfl (list_post (p := p84 dd) hct (b := b84_0) ks.length (fun k (m : Nat) => s84_0 kn kt (encL ks) m ks.length k) (fun k m => m = countL (ks.take k) + 1) _ ?_ ?_ 0 (Nat.zero_le _) 1 rfl)
  · rintro k m hk rfl
    have hkid : depL ks[k].kids < dd := by have := depL_kid (List.getElem_mem hk); omega
    have hcm := countL_mem (List.getElem_mem hk)
    rw [countT_eq] at hcm
    have hnx : countL (ks.take (k + 1)) = countL (ks.take k) + countT ks[k] := by rw [List.take_succ_eq_append_getElem hk, countL_app]; simp [countL]
    have hle := countL_take_le ks (k + 1)
    left
    refine ⟨countL (ks.take (k + 1)) + 1, rfl, ?_⟩
    rw [t84_0]
    simp only [nd_ok, nd_lab, nd_rows, nd_kids, encL_length, isL_enc, decL_enc, wrap_hd, hd_pos, ld_br, ld_chk', ld_leaf, fd_br, fd_chk', fd_leaf, decide_true, decide_eq_true_eq, if_true, Int.toNat_natCast, Int.natCast_nonneg, Int.ofNat_lt, Int.ofNat_le, Bool.false_eq_true, if_false, bne_iff_ne, beq_iff_eq, ne_eq, not_true_eq_false, not_false_eq_true, Bool.not_eq_true', decide_eq_false_iff_not, reduceCtorEq, rows_length, pcs_length, er_ok, er_ok', ep_ok, ep_ok', dr_er, dp_ep, isRows_rows, isPcs_pcs, toRows_rows, toPcs_pcs, rows_take, rows_drop, pcs_take, pcs_drop, rows_append, pcs_append, ints_length, isInts_ints, toInts_ints, ei_i, ei_ok, mk_headD, ints_take, ints_drop, ints_append, ints_snoc, ints_snoc', List.take_length, Nat.zero_add, Nat.le_refl, er_a, er_b, er_k, er_n, er_s, er_v, ep_a, ep_b, ep_hk, ep_hn, ep_hs, ep_wk, ep_wn, ep_ws, hk, encL_getD hk, nd_node, hkid, show countL ks[k].kids < 1000000000 by omega, wrap_succ (show k < 9223372036854775807 by omega)]
    have w : IntKind.wrap .i64 (((countL (ks.take k) + 1 : Nat) : Int) + (countT ks[k] : Nat)) = ((countL (ks.take (k + 1)) + 1 : Nat) : Int) := by
      rw [wrap_same (by omega) (by omega)]; omega
    rw [w]
  · rintro _ rfl
    rw [t84_0]
    refine ⟨x84_0x0 kn kt (encL ks) (countL (ks.take ks.length) + 1 : Nat) ks.length ks.length, by simp, ?_, by simp only [nd_ok, nd_lab, nd_rows, nd_kids, encL_length, isL_enc, decL_enc, wrap_hd, hd_pos, ld_br, ld_chk', ld_leaf, fd_br, fd_chk', fd_leaf, decide_true, decide_eq_true_eq, if_true, Int.toNat_natCast, Int.natCast_nonneg, Int.ofNat_lt, Int.ofNat_le, Bool.false_eq_true, if_false, bne_iff_ne, beq_iff_eq, ne_eq, not_true_eq_false, not_false_eq_true, Bool.not_eq_true', decide_eq_false_iff_not, reduceCtorEq, rows_length, pcs_length, er_ok, er_ok', ep_ok, ep_ok', dr_er, dp_ep, isRows_rows, isPcs_pcs, toRows_rows, toPcs_pcs, rows_take, rows_drop, pcs_take, pcs_drop, rows_append, pcs_append, ints_length, isInts_ints, toInts_ints, ei_i, ei_ok, mk_headD, ints_take, ints_drop, ints_append, ints_snoc, ints_snoc', List.take_length, Nat.zero_add, Nat.le_refl, er_a, er_b, er_k, er_n, er_s, er_v, ep_a, ep_b, ep_hk, ep_hn, ep_hs, ep_wk, ep_wn, ep_ws, Int.lt_irrefl]⟩
    rw [k84_0x0, fd_leaf, List.take_length, countT]
theorem s84_ok : ∀ d, CSpecOk E 84 (s84 d)
  | 0 => by
    intro a h cs vals h' he hc
    unfold s84 at he
    split at he <;> simp only [Option.some.injEq, Prod.mk.injEq, reduceCtorEq] at he
    obtain ⟨rfl, rfl, rfl⟩ := he
    simp [allT] at hc
  | d + 1 => by
    intro a h cs vals h' he hc
    unfold s84 at he
    split at he <;> simp only [Option.some.injEq, Prod.mk.injEq, reduceCtorEq] at he
    rename_i s rn rt xs kn kt ys
    obtain ⟨rfl, rfl, rfl⟩ := he
    simp only [allT, Bool.and_true, Bool.and_eq_true, decide_eq_true_eq] at hc
    obtain ⟨h1, h2, h3, h4⟩ := hc
    obtain ⟨rs, rfl⟩ := rows_ex h1
    obtain ⟨ks, rfl⟩ := isL_ex h2
    simp only [toRows_rows, decL_enc] at *
    exact f84 d (s84_ok d) s rn rt rs kn kt ks h3 h4
def nodesP (t : Nd) : Int := if okR t = true then countT t else 0
def s36 : CSpec := fun a h => match a, h with
  | [.agg [.c (.str s), .c (.sl 5 rn rt xs), .c (.sl 3 kn kt ys)]], [] => some ([isRows xs, isL ys, decide (countL (decL ys) < 1000000000)], [V.i (nodesP (.node s (toRows xs) (decL ys)))], [])
  | _, _ => none
theorem f36 (s : Bys) (rn : OBo) (rt : Bool) (rs : List Row) (kn : OBo) (kt : Bool) (ks : List Nd) (hc : countL ks < 1000000000) :
    call E 36 [.agg [.c (.str s), .c (.sl 5 rn rt (rows rs)), .c (.sl 3 kn kt (encL ks))]] [] = some ([V.i (nodesP (.node s rs ks))], []) := by
  have hct : (ctOf [(28, s28), (84, s84 (depL ks + 1))]).ok E := ctOf_cons s28_ok (ctOf_cons (s84_ok _) ctOf_nil)
  refine call_of (E := E) (sh := sh) (ct := ctOf [(28, s28), (84, s84 (depL ks + 1))]) (na := 1) (m := 0) hct rfl rfl rfl rfl rfl rfl ?_
  show (p36 (depL ks + 1)).fd ((p36 (depL ks + 1)).ft _ _) = _
  rw [t36]
  simp only [nd_ok, nd_lab, nd_rows, nd_kids, encL_length, isL_enc, decL_enc, wrap_hd, hd_pos, ld_br, ld_chk', ld_leaf, fd_br, fd_chk', fd_leaf, decide_true, decide_eq_true_eq, if_true, Int.toNat_natCast, Int.natCast_nonneg, Int.ofNat_lt, Int.ofNat_le, Bool.false_eq_true, if_false, bne_iff_ne, beq_iff_eq, ne_eq, not_true_eq_false, not_false_eq_true, Bool.not_eq_true', decide_eq_false_iff_not, reduceCtorEq, rows_length, pcs_length, er_ok, er_ok', ep_ok, ep_ok', dr_er, dp_ep, isRows_rows, isPcs_pcs, toRows_rows, toPcs_pcs, rows_take, rows_drop, pcs_take, pcs_drop, rows_append, pcs_append, ints_length, isInts_ints, toInts_ints, ei_i, ei_ok, mk_headD, ints_take, ints_drop, ints_append, ints_snoc, ints_snoc', List.take_length, Nat.zero_add, Nat.le_refl, er_a, er_b, er_k, er_n, er_s, er_v, ep_a, ep_b, ep_hk, ep_hn, ep_hs, ep_wk, ep_wn, ep_ws, checkT_ne, show depL ks < depL ks + 1 by omega, hc]
  unfold nodesP
  cases okR (.node s rs ks) <;> simp
theorem s36_ok : CSpecOk E 36 s36 := by
  intro a h cs vals h' he hc
  unfold s36 at he
  split at he <;> simp only [Option.some.injEq, Prod.mk.injEq, reduceCtorEq] at he
  rename_i s rn rt xs kn kt ys
  obtain ⟨rfl, rfl, rfl⟩ := he
  simp only [allT, Bool.and_true, Bool.and_eq_true, decide_eq_true_eq] at hc
  obtain ⟨h1, h2, h3⟩ := hc
  obtain ⟨rs, rfl⟩ := rows_ex h1
  obtain ⟨ks, rfl⟩ := isL_ex h2
  simp only [toRows_rows, decL_enc] at *
  exact f36 s rn rt rs kn kt ks h3
end Go.Proofs.YtgaabjmbnomimaaDoor
