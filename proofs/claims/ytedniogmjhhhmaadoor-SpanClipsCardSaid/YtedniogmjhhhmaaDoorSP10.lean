/-
  Chapter 02 (span): the reference's Runes, Right, over, Same.
-/
import Derived.Test.YtedniogmjhhhmaaDoorSP9
set_option linter.all false
set_option linter.unusedSimpArgs false
set_option linter.unusedVariables false
namespace Go.Proofs.YtedniogmjhhhmaaDoor
open Go Go.Ev

theorem width_bounds (s : List UInt8) (i : Nat) (h : i < s.length) : 0 ≤ widthR s i ∧ widthR s i ≤ 4 := by
  have h4 : ∀ n c least, finW n c least ≤ n := fun n c least => by
    unfold finW
    split
    · omega
    · split
      · omega
      · split <;> omega
  rw [width_n s i h]
  refine ⟨by omega, ?_⟩
  have : ∀ v0 v1 v2 v3 p1 p2 p3, wN v0 v1 v2 v3 p1 p2 p3 ≤ 4 := by
    intro v0 v1 v2 v3 p1 p2 p3
    have a2 := h4 2 (64 * (v0 - 192) + v1 % 64) 128
    have a3 := h4 3 (64 * (64 * (v0 - 224) + v1 % 64) + v2 % 64) 2048
    have a4 := h4 4 (64 * (64 * (64 * (v0 - 240) + v1 % 64) + v2 % 64) + v3 % 64) 65536
    unfold wN
    repeat' split
    all_goals omega
  have := this (s.getD i 0).toNat (s.getD (i + 1) 0).toNat (s.getD (i + 2) 0).toNat (s.getD (i + 3) 0).toNat (decide (i + 1 < s.length)) (decide (i + 2 < s.length)) (decide (i + 3 < s.length))
  omega
theorem f56 (s : List UInt8) (hs : s.length < 1000000) : call E 56 [.c (.str s)] [] = some ([V.i (runesR s (s.length + 1) 0 0)], []) := by
  have hct : (ctOf [(66, s66)]).ok E := ctOf_cons s66_ok ctOf_nil
  refine call_of (E := E) (sh := sh) (ct := ctOf [(66, s66)]) (na := 1) (m := 0) hct rfl rfl rfl rfl rfl rfl ?_
  rw [t56]
  refine fd_post hct (by kernel_rfl) rfl (loops_post hct (b := b56_0) (ι := Nat × Nat × Nat) (fun i => s56_0 s (i.1 : Int) (i.2.1 : Int)) (fun i => runesR s i.2.2 i.2.1 i.1 = runesR s (s.length + 1) 0 0 ∧ i.1 ≤ i.2.1 ∧ s.length + 1 ≤ i.2.1 + i.2.2 ∧ i.2.1 ≤ s.length + 4 ∧ 0 < i.2.2) (fun i => s.length + 5 - i.2.1) _ ?_ (0, 0, s.length + 1) ⟨rfl, by simp, by simp, by simp, by simp⟩)
  rintro ⟨n, pos, f⟩ ⟨h1, h2, h3, h4, h5⟩
  dsimp only at *
  rw [t56_0]
  obtain ⟨f, rfl⟩ : ∃ g, f = g + 1 := ⟨f - 1, by omega⟩
  rw [runesR] at h1
  by_cases hp : pos < s.length
  · have hp' : (pos : Int) < s.length := by omega
    have e0 : (pos : Int) < 1000000 := by omega
    simp only [ld_br, ld_chk', ld_leaf, fd_br, fd_chk', fd_leaf, decide_true, decide_eq_true_eq, if_true, Int.toNat_natCast, Int.natCast_nonneg, Int.ofNat_lt, Int.ofNat_le, Bool.false_eq_true, if_false, bne_iff_ne, beq_iff_eq, ne_eq, not_true_eq_false, not_false_eq_true, Bool.not_eq_true', decide_eq_false_iff_not, reduceCtorEq, rows_length, pcs_length, er_ok, er_ok', ep_ok, ep_ok', dr_er, dp_ep, isRows_rows, isPcs_pcs, toRows_rows, toPcs_pcs, rows_take, rows_drop, pcs_take, pcs_drop, rows_append, pcs_append, ints_length, isInts_ints, toInts_ints, ei_i, ei_ok, mk_headD, ints_take, ints_drop, ints_append, ints_snoc, ints_snoc', List.take_length, Nat.zero_add, Nat.le_refl, er_a, er_b, er_k, er_n, er_s, er_v, ep_a, ep_b, ep_hk, ep_hn, ep_hs, ep_wk, ep_wn, ep_ws, hs, e0]
    obtain ⟨b1, b2⟩ := width_bounds s pos hp
    rw [if_pos hp'] at h1
    rw [if_pos hp]
    by_cases hw : widthR s pos = 0
    · rw [if_pos hw] at h1
      right
      refine ⟨x56_0x0, by simp, ?_, by rw [if_pos hw]⟩
      rw [k56_0x0, fd_leaf, ← h1]
    · rw [if_neg hw] at h1
      left
      have e1 : (pos : Int) + widthR s pos = ((pos + (widthR s pos).toNat : Nat) : Int) := by omega
      refine ⟨(n + 1, pos + (widthR s pos).toNat, f), ⟨?_, ?_, ?_, ?_, ?_⟩, ?_, ?_⟩
      · rw [← h1, e1]; rfl
      all_goals dsimp only
      · omega
      · omega
      · omega
      · omega
      · omega
      · rw [if_neg hw, wrap_succ (by omega), e1, wrap_same (by omega) (by omega)]
  · have hp' : ¬ (pos : Int) < s.length := by omega
    rw [if_neg hp'] at h1
    simp only [ld_br, ld_chk', ld_leaf, fd_br, fd_chk', fd_leaf, decide_true, decide_eq_true_eq, if_true, Int.toNat_natCast, Int.natCast_nonneg, Int.ofNat_lt, Int.ofNat_le, Bool.false_eq_true, if_false, bne_iff_ne, beq_iff_eq, ne_eq, not_true_eq_false, not_false_eq_true, Bool.not_eq_true', decide_eq_false_iff_not, reduceCtorEq, rows_length, pcs_length, er_ok, er_ok', ep_ok, ep_ok', dr_er, dp_ep, isRows_rows, isPcs_pcs, toRows_rows, toPcs_pcs, rows_take, rows_drop, pcs_take, pcs_drop, rows_append, pcs_append, ints_length, isInts_ints, toInts_ints, ei_i, ei_ok, mk_headD, ints_take, ints_drop, ints_append, ints_snoc, ints_snoc', List.take_length, Nat.zero_add, Nat.le_refl, er_a, er_b, er_k, er_n, er_s, er_v, ep_a, ep_b, ep_hk, ep_hn, ep_hs, ep_wk, ep_wn, ep_ws]
    right
    refine ⟨x56_0x1 s n pos, by simp, ?_, by rw [if_neg hp]⟩
    rw [k56_0x1, fd_leaf, ← h1]
theorem s56_ok : CSpecOk E 56 s56 := by
  intro a h cs vals h' he hc
  unfold s56 at he
  split at he <;> simp only [Option.some.injEq, Prod.mk.injEq, reduceCtorEq] at he
  obtain ⟨rfl, rfl, rfl⟩ := he
  simp only [allT, Bool.and_true, decide_eq_true_eq] at hc
  exact f56 _ hc
theorem f35 (v : Val) : call E 35 [VV v] [] = some ([V.b (valR v)], []) := by
  obtain ⟨k, n, s⟩ := v
  refine call_of (E := E) (sh := sh) (ct := ctOf [(56, s56)]) (na := 1) (m := 0) (ctOf_cons s56_ok ctOf_nil) rfl rfl rfl rfl rfl rfl ?_
  rw [t35]
  simp only [ld_br, ld_chk', ld_leaf, fd_br, fd_chk', fd_leaf, decide_true, decide_eq_true_eq, if_true, Int.toNat_natCast, Int.natCast_nonneg, Int.ofNat_lt, Int.ofNat_le, Bool.false_eq_true, if_false, bne_iff_ne, beq_iff_eq, ne_eq, not_true_eq_false, not_false_eq_true, Bool.not_eq_true', decide_eq_false_iff_not, reduceCtorEq, rows_length, pcs_length, er_ok, er_ok', ep_ok, ep_ok', dr_er, dp_ep, isRows_rows, isPcs_pcs, toRows_rows, toPcs_pcs, rows_take, rows_drop, pcs_take, pcs_drop, rows_append, pcs_append, ints_length, isInts_ints, toInts_ints, ei_i, ei_ok, mk_headD, ints_take, ints_drop, ints_append, ints_snoc, ints_snoc', List.take_length, Nat.zero_add, Nat.le_refl, er_a, er_b, er_k, er_n, er_s, er_v, ep_a, ep_b, ep_hk, ep_hn, ep_hs, ep_wk, ep_wn, ep_ws, valR]
  have hle : ((s.length : Int) ≤ 40) = (s.length ≤ 40) := by simp; omega
  simp only [hle]
  by_cases h1 : k = 1
  · subst h1
    by_cases h2 : s = [] <;> simp [h2]
  · by_cases h3 : k = 2
    · subst h3
      by_cases h4 : n = 0
      · by_cases h5 : s.length ≤ 40
        · have h6 : s.length < 1000000 := by omega
          simp [h4, h5, h6]
        · simp [h4, h5]
      · simp [h4]
    · simp [h1, h3]
theorem s35_ok : CSpecOk E 35 s35 := by
  intro a h cs vals h' he hc
  unfold s35 at he
  split at he <;> simp only [Option.some.injEq, Prod.mk.injEq, reduceCtorEq] at he
  rename_i k n s
  obtain ⟨rfl, rfl, rfl⟩ := he
  exact f35 ⟨k, n, s⟩
theorem s36_ok : CSpecOk E 36 s36 := by
  intro a h cs vals h' he hc
  unfold s36 s27 at he
  split at he <;> simp only [Option.some.injEq, Prod.mk.injEq, reduceCtorEq] at he
  obtain ⟨rfl, rfl, rfl⟩ := he
  exact f36 _ _
theorem f34 (l : List Row) (nl : Option Bool) (tt : Bool) : call E 34 [.c (.sl 5 nl tt (rows l))] [] = some ([V.b (right l)], []) := by
  have hct : (ctOf [(36, s36), (35, s35)]).ok E := ctOf_cons s36_ok (ctOf_cons s35_ok ctOf_nil)
  refine call_of (E := E) (sh := sh) (ct := ctOf [(36, s36), (35, s35)]) (na := 1) (m := 0) hct rfl rfl rfl rfl rfl rfl ?_
  rw [t34, rows_length]
  simp only [fd_br, decide_eq_true_eq]
  by_cases hl : (64 : Int) < l.length
  · rw [if_pos hl, fd_leaf]
    have : right l = false := by simp [right]; omega
    rw [this]
  · rw [if_neg hl]
    have hr : right l = okFrom none l := by simp [right]; omega
    rw [hr]
    refine fd_post hct (by kernel_rfl) rfl (list_post hct (b := b34_0) l.length (fun k (_ : Unit) => s34_0 nl tt (rows l) k) (fun k _ => okFrom (if k = 0 then none else l[k - 1]?) (l.drop k) = okFrom none l) _ ?_ ?_ 0 (Nat.zero_le _) () (by rfl))
    · intro k _ hk hi
      rw [List.drop_eq_getElem_cons hk] at hi
      simp only [okFrom] at hi
      rw [t34_0]
      simp only [ld_br, ld_chk', ld_leaf, fd_br, fd_chk', fd_leaf, decide_true, decide_eq_true_eq, if_true, Int.toNat_natCast, Int.natCast_nonneg, Int.ofNat_lt, Int.ofNat_le, Bool.false_eq_true, if_false, bne_iff_ne, beq_iff_eq, ne_eq, not_true_eq_false, not_false_eq_true, Bool.not_eq_true', decide_eq_false_iff_not, reduceCtorEq, rows_length, pcs_length, er_ok, er_ok', ep_ok, ep_ok', dr_er, dp_ep, isRows_rows, isPcs_pcs, toRows_rows, toPcs_pcs, rows_take, rows_drop, pcs_take, pcs_drop, rows_append, pcs_append, ints_length, isInts_ints, toInts_ints, ei_i, ei_ok, mk_headD, ints_take, ints_drop, ints_append, ints_snoc, ints_snoc', List.take_length, Nat.zero_add, Nat.le_refl, er_a, er_b, er_k, er_n, er_s, er_v, ep_a, ep_b, ep_hk, ep_hn, ep_hs, ep_wk, ep_wn, ep_ws, hk, rows_getD hk, wrap_succ (show k < 9223372036854775807 by omega), valR_eq]
      have ex0 : ∀ {b : Bool}, b = false → p34.fd (p34.fkx 0 x34_0x0) = some (.out [V.b b] []) := fun h => by rw [k34_0x0, fd_leaf, h]
      by_cases h1 : isSpan l[k].a l[k].b = false
      · right
        refine ⟨x34_0x0, by simp, ex0 (by rw [← hi, h1]; rfl), ?_⟩
        rw [if_pos h1]
      · rw [if_neg h1]
        have h1' : isSpan l[k].a l[k].b = true := by simpa using h1
        by_cases h2 : checkV l[k].v = 0
        · simp only [h2, not_true_eq_false, if_false]
          rw [h1', decide_eq_true h2, Bool.true_and, Bool.true_and] at hi
          cases k with
          | zero =>
            left
            refine ⟨(), ?_, ?_⟩
            · rw [← hi]; simp [List.getElem?_eq_getElem hk]
            · simp
          | succ k =>
            have hk' : k < l.length := by omega
            have e1 : l[k + 1 - 1]? = some l[k] := by simp [hk']
            rw [if_neg (by omega), e1] at hi
            simp only at hi
            have hw2 : IntKind.wrap .i64 (((k + 1 : Nat) : Int) - 1) = (k : Int) := by rw [wrap_same (by omega) (by omega)]; omega
            have hpos : (0 : Int) < ((k + 1 : Nat) : Int) := by omega
            simp only [hpos, if_true, hw2, Int.natCast_nonneg, Int.toNat_natCast, hk', rows_getD hk', er_ok', er_a, er_b, er_k, er_n, er_s, val_eqb, decide_eq_true_eq]
            by_cases h3 : l[k + 1].a < l[k].b
            · right
              refine ⟨x34_0x0, by simp, ex0 (by rw [← hi]; simp [h3]), by rw [if_pos h3]⟩
            · by_cases h4 : l[k + 1].a = l[k].b
              · by_cases h5 : l[k + 1].v = l[k].v
                · right
                  refine ⟨x34_0x0, by simp, ex0 (by rw [← hi]; simp [h4, h5]), by rw [if_neg h3, if_pos h4, if_pos h5]⟩
                · left
                  refine ⟨(), ?_, by rw [if_neg h3, if_pos h4, if_neg h5]⟩
                  rw [← hi]; simp [h3, h5, List.getElem?_eq_getElem hk]
              · left
                refine ⟨(), ?_, by rw [if_neg h3, if_neg h4]⟩
                rw [← hi]; simp [h3, h4, List.getElem?_eq_getElem hk]
        · right
          refine ⟨x34_0x0, by simp, ex0 (by rw [← hi]; simp [h2]), ?_⟩
          rw [if_pos h2]
    · intro _ hi
      rw [List.drop_length] at hi
      simp only [okFrom] at hi
      rw [t34_0]
      refine ⟨x34_0x1 nl tt (rows l) l.length, by simp, ?_, by simp only [ld_br, ld_chk', ld_leaf, fd_br, fd_chk', fd_leaf, decide_true, decide_eq_true_eq, if_true, Int.toNat_natCast, Int.natCast_nonneg, Int.ofNat_lt, Int.ofNat_le, Bool.false_eq_true, if_false, bne_iff_ne, beq_iff_eq, ne_eq, not_true_eq_false, not_false_eq_true, Bool.not_eq_true', decide_eq_false_iff_not, reduceCtorEq, rows_length, pcs_length, er_ok, er_ok', ep_ok, ep_ok', dr_er, dp_ep, isRows_rows, isPcs_pcs, toRows_rows, toPcs_pcs, rows_take, rows_drop, pcs_take, pcs_drop, rows_append, pcs_append, ints_length, isInts_ints, toInts_ints, ei_i, ei_ok, mk_headD, ints_take, ints_drop, ints_append, ints_snoc, ints_snoc', List.take_length, Nat.zero_add, Nat.le_refl, er_a, er_b, er_k, er_n, er_s, er_v, ep_a, ep_b, ep_hk, ep_hn, ep_hs, ep_wk, ep_wn, ep_ws, Nat.lt_irrefl]⟩
      rw [k34_0x1, fd_leaf, ← hi]

/-! ## the reference's over -/
theorem pairsOf_drop {bs : List Int} {k : Nat} (h : k + 1 < bs.length) : pairsOf (bs.drop k) = (bs[k], bs[k + 1]) :: pairsOf (bs.drop (k + 1)) := by
  rw [List.drop_eq_getElem_cons (show k < bs.length by omega), List.drop_eq_getElem_cons h]
  rfl
theorem pairsOf_end {bs : List Int} {k : Nat} (h : bs.length ≤ k + 1) : pairsOf (bs.drop k) = [] := by
  rcases Nat.lt_or_ge k bs.length with hk | hk
  · rw [List.drop_eq_getElem_cons hk, List.drop_of_length_le h]; rfl
  · rw [List.drop_of_length_le hk]; rfl
theorem ints_get {l : List Int} {i : Nat} (h : i < l.length) : (ints l).getD i [] = ei l[i] := by rw [ints_getD h]; simp [List.getD_eq_getElem?_getD, h]
theorem f38 (l : List Row) (nl : Option Bool) (tt : Bool) (a b : Int) (v : Val) (hl : l.length < 100000) : call E 38 [.c (.sl 5 nl tt (rows l)), V.i a, V.i b, VV v] [] = some ([.c (.sl 5 none false (rows (overS l a b v)))], []) := by
  have hct : (ctOf [(57, s57), (49, s49), (39, s39), (58, s58)]).ok E := ctOf_cons s57_ok (ctOf_cons s49_ok (ctOf_cons s39_ok (ctOf_cons s58_ok ctOf_nil)))
  obtain ⟨vk, vn, vs⟩ := v
  refine call_of (E := E) (sh := sh) (ct := ctOf [(57, s57), (49, s49), (39, s39), (58, s58)]) (na := 4) (m := 0) hct rfl rfl rfl rfl rfl rfl ?_
  rw [t38]
  have h1 := insG_len [] a false
  have h2 := insG_len (insG [] a false) b false
  have h3 := bndR_len l (insG (insG [] a false) b false)
  have c1 : (insG (insG [] a false) b false).length < 1000000 := by simp at h1; omega
  have hnil : toInts [] = [] := rfl
  simp only [ld_br, ld_chk', ld_leaf, fd_br, fd_chk', fd_leaf, decide_true, decide_eq_true_eq, if_true, Int.toNat_natCast, Int.natCast_nonneg, Int.ofNat_lt, Int.ofNat_le, Bool.false_eq_true, if_false, bne_iff_ne, beq_iff_eq, ne_eq, not_true_eq_false, not_false_eq_true, Bool.not_eq_true', decide_eq_false_iff_not, reduceCtorEq, rows_length, pcs_length, er_ok, er_ok', ep_ok, ep_ok', dr_er, dp_ep, isRows_rows, isPcs_pcs, toRows_rows, toPcs_pcs, rows_take, rows_drop, pcs_take, pcs_drop, rows_append, pcs_append, ints_length, isInts_ints, toInts_ints, ei_i, ei_ok, mk_headD, ints_take, ints_drop, ints_append, ints_snoc, ints_snoc', List.take_length, Nat.zero_add, Nat.le_refl, er_a, er_b, er_k, er_n, er_s, er_v, ep_a, ep_b, ep_hk, ep_hn, ep_hs, ep_wk, ep_wn, ep_ws, hnil, c1, show l.length < 1000000 by omega]
  unfold overS
  generalize hbs : bndR (insG (insG [] a false) b false) l = bs at *
  have c2 : bs.length < 1000000 := by simp at h1; omega
  have key := list_post (p := p38) hct (b := b38_0) (bs.length - 1) (fun k (s : Option Bool × Bool × List Row) => s38_0 nl tt (rows l) a b vk vn vs none false (ints bs) s.1 s.2.1 (rows s.2.2) (k + 1)) (fun k s => overH l a b ⟨vk, vn, vs⟩ (pairsOf (bs.drop k)) s.2.2 = overH l a b ⟨vk, vn, vs⟩ (pairsOf bs) [] ∧ s.2.2.length ≤ k) (fun x => p38.fd (p38.fkx 0 x) = some (.out [.c (.sl 5 none false (rows (overH l a b ⟨vk, vn, vs⟩ (pairsOf bs) [])))] [])) ?_ ?_ 0 (Nat.zero_le _) (some true, true, []) ⟨rfl, by simp⟩
  · exact fd_post hct (by kernel_rfl) rfl key
  · rintro k ⟨n1, b1, acc⟩ hk ⟨hi, hlen⟩
    dsimp only at hi hlen
    have hk1 : k + 1 < bs.length := by omega
    have hk0 : k < bs.length := by omega
    rw [pairsOf_drop hk1, overH] at hi
    have e1 : ((k : Int) + 1) = ((k + 1 : Nat) : Int) := rfl
    have w1 : IntKind.wrap .i64 (((k + 1 : Nat) : Int) - 1) = (k : Int) := by rw [wrap_same (by omega) (by omega)]; omega
    have w2 : IntKind.wrap .i64 (((k + 1 : Nat) : Int) + 1) = (((k + 1 : Nat) : Int) + 1) := by rw [wrap_same (by omega) (by omega)]
    rw [t38_0]
    have c3 : acc.length < 4294967280 := by omega
    have c4 : l.length < 4294967296 := by omega
    simp only [e1, ld_br, ld_chk', ld_leaf, fd_br, fd_chk', fd_leaf, decide_true, decide_eq_true_eq, if_true, Int.toNat_natCast, Int.natCast_nonneg, Int.ofNat_lt, Int.ofNat_le, Bool.false_eq_true, if_false, bne_iff_ne, beq_iff_eq, ne_eq, not_true_eq_false, not_false_eq_true, Bool.not_eq_true', decide_eq_false_iff_not, reduceCtorEq, rows_length, pcs_length, er_ok, er_ok', ep_ok, ep_ok', dr_er, dp_ep, isRows_rows, isPcs_pcs, toRows_rows, toPcs_pcs, rows_take, rows_drop, pcs_take, pcs_drop, rows_append, pcs_append, ints_length, isInts_ints, toInts_ints, ei_i, ei_ok, mk_headD, ints_take, ints_drop, ints_append, ints_snoc, ints_snoc', List.take_length, Nat.zero_add, Nat.le_refl, er_a, er_b, er_k, er_n, er_s, er_v, ep_a, ep_b, ep_hk, ep_hn, ep_hs, ep_wk, ep_wn, ep_ws, w1, w2, hk1, hk0, ints_get hk1, ints_get hk0, c3, c4, val_eta]
    left
    have a1 := addS_len acc ⟨bs[k], bs[k + 1], ⟨vk, vn, vs⟩⟩
    have a2 := addS_len acc ⟨bs[k], bs[k + 1], hadF l bs[k]⟩
    by_cases g1 : a ≤ bs[k]
    · by_cases g2 : bs[k + 1] ≤ b
      · rw [if_pos ⟨g1, g2⟩] at hi
        exact ⟨(none, false, addS acc ⟨bs[k], bs[k + 1], ⟨vk, vn, vs⟩⟩), ⟨hi, Nat.le_trans a1 (by omega)⟩, by simp only [g1, g2, if_true]⟩
      · rw [if_neg (fun h => g2 h.2)] at hi
        exact ⟨(none, false, addS acc ⟨bs[k], bs[k + 1], hadF l bs[k]⟩), ⟨hi, Nat.le_trans a2 (by omega)⟩, by simp only [g1, g2, if_true, if_false]⟩
    · rw [if_neg (fun h => g1 h.1)] at hi
      exact ⟨(none, false, addS acc ⟨bs[k], bs[k + 1], hadF l bs[k]⟩), ⟨hi, Nat.le_trans a2 (by omega)⟩, by simp only [g1, if_false]⟩
  · rintro ⟨n1, b1, acc⟩ ⟨hi, hlen⟩
    dsimp only at hi hlen
    rw [pairsOf_end (by omega), overH] at hi
    have c0 : ¬ ((((bs.length - 1 : Nat) : Int) + 1) < (bs.length : Int)) := by omega
    rw [t38_0]
    refine ⟨x38_0x0 nl tt (rows l) a b vk vn vs none false (ints bs) n1 b1 (rows acc) (((bs.length - 1 : Nat) : Int) + 1), by simp, ?_, by simp only [ld_br, ld_leaf, decide_eq_true_eq, ints_length, c0, if_false]⟩
    rw [k38_0x0, fd_leaf, ← hi]

/-! ## the same -/
theorem row_eqb (x y : Row) : (x.a == y.a && (x.b == y.b && (x.v.k == y.v.k && (x.v.n == y.v.n && (x.v.s == y.v.s && true))))) = decide (x = y) := by
  obtain ⟨a, b, ⟨k, m, s⟩⟩ := x
  obtain ⟨a', b', ⟨k', m', s'⟩⟩ := y
  rw [Bool.eq_iff_iff]
  simp
theorem pc_eqb (x y : Piece) : (x.a == y.a && (x.b == y.b && (x.h.k == y.h.k && (x.h.n == y.h.n && (x.h.s == y.h.s && (x.w.k == y.w.k && (x.w.n == y.w.n && (x.w.s == y.w.s && true)))))))) = decide (x = y) := by
  obtain ⟨a, b, ⟨k, m, s⟩, ⟨k2, m2, s2⟩⟩ := x
  obtain ⟨a', b', ⟨k', m', s'⟩, ⟨k3, m3, s3⟩⟩ := y
  rw [Bool.eq_iff_iff]
  simp [and_assoc]
theorem take_ext {α : Type} {l m : List α} {k : Nat} (h1 : l.take k = m.take k) (hk : k < l.length) (hm : k < m.length) (he : l[k] = m[k]) : l.take (k + 1) = m.take (k + 1) := by
  rw [List.take_succ, List.take_succ, h1, List.getElem?_eq_getElem hk, List.getElem?_eq_getElem hm, he]
theorem f14 (l m : List Row) (nl : Option Bool) (tt : Bool) (nl2 : Option Bool) (t2 : Bool) (hl : l.length < 4294967296) : call E 14 [.c (.sl 5 nl tt (rows l)), .c (.sl 5 nl2 t2 (rows m))] [] = some ([V.b (decide (l = m))], []) := by
  refine call_of (E := E) (sh := sh) (ct := ctOf []) (na := 2) (m := 0) ctOf_nil rfl rfl rfl rfl rfl rfl ?_
  rw [t14]
  simp only [ld_br, ld_chk', ld_leaf, fd_br, fd_chk', fd_leaf, decide_true, decide_eq_true_eq, if_true, Int.toNat_natCast, Int.natCast_nonneg, Int.ofNat_lt, Int.ofNat_le, Bool.false_eq_true, if_false, bne_iff_ne, beq_iff_eq, ne_eq, not_true_eq_false, not_false_eq_true, Bool.not_eq_true', decide_eq_false_iff_not, reduceCtorEq, rows_length, pcs_length, er_ok, er_ok', ep_ok, ep_ok', dr_er, dp_ep, isRows_rows, isPcs_pcs, toRows_rows, toPcs_pcs, rows_take, rows_drop, pcs_take, pcs_drop, rows_append, pcs_append, ints_length, isInts_ints, toInts_ints, ei_i, ei_ok, mk_headD, ints_take, ints_drop, ints_append, ints_snoc, ints_snoc', List.take_length, Nat.zero_add, Nat.le_refl, er_a, er_b, er_k, er_n, er_s, er_v, ep_a, ep_b, ep_hk, ep_hn, ep_hs, ep_wk, ep_wn, ep_ws]
  by_cases h : l.length = m.length
  · have h' : ¬ ¬ (l.length : Int) = m.length := by omega
    rw [if_neg h']
    refine fd_post ctOf_nil (by kernel_rfl) rfl (list_post ctOf_nil (b := b14_0) l.length (fun k (_ : Unit) => s14_0 nl tt (rows l) nl2 t2 (rows m) k) (fun k _ => l.take k = m.take k) _ ?_ ?_ 0 (Nat.zero_le _) () (by rfl))
    · intro k _ hk hi
      have hm : k < m.length := by omega
      rw [t14_0]
      simp only [ld_br, ld_chk', ld_leaf, fd_br, fd_chk', fd_leaf, decide_true, decide_eq_true_eq, if_true, Int.toNat_natCast, Int.natCast_nonneg, Int.ofNat_lt, Int.ofNat_le, Bool.false_eq_true, if_false, bne_iff_ne, beq_iff_eq, ne_eq, not_true_eq_false, not_false_eq_true, Bool.not_eq_true', decide_eq_false_iff_not, reduceCtorEq, rows_length, pcs_length, er_ok, er_ok', ep_ok, ep_ok', dr_er, dp_ep, isRows_rows, isPcs_pcs, toRows_rows, toPcs_pcs, rows_take, rows_drop, pcs_take, pcs_drop, rows_append, pcs_append, ints_length, isInts_ints, toInts_ints, ei_i, ei_ok, mk_headD, ints_take, ints_drop, ints_append, ints_snoc, ints_snoc', List.take_length, Nat.zero_add, Nat.le_refl, er_a, er_b, er_k, er_n, er_s, er_v, ep_a, ep_b, ep_hk, ep_hn, ep_hs, ep_wk, ep_wn, ep_ws, hk, hm, rows_getD hk, rows_getD hm, row_eqb, wrap_succ (show k < 9223372036854775807 by omega)]
      by_cases he : l[k] = m[k]
      · left
        exact ⟨(), take_ext hi hk hm he, by simp [he]⟩
      · right
        refine ⟨x14_0x0, by simp, ?_, by simp [he]⟩
        rw [k14_0x0, fd_leaf, decide_eq_false (fun e => he (by subst e; rfl))]
    · intro _ hi
      rw [t14_0]
      refine ⟨x14_0x1 nl tt (rows l) nl2 t2 (rows m) l.length, by simp, ?_, by simp only [ld_br, ld_chk', ld_leaf, fd_br, fd_chk', fd_leaf, decide_true, decide_eq_true_eq, if_true, Int.toNat_natCast, Int.natCast_nonneg, Int.ofNat_lt, Int.ofNat_le, Bool.false_eq_true, if_false, bne_iff_ne, beq_iff_eq, ne_eq, not_true_eq_false, not_false_eq_true, Bool.not_eq_true', decide_eq_false_iff_not, reduceCtorEq, rows_length, pcs_length, er_ok, er_ok', ep_ok, ep_ok', dr_er, dp_ep, isRows_rows, isPcs_pcs, toRows_rows, toPcs_pcs, rows_take, rows_drop, pcs_take, pcs_drop, rows_append, pcs_append, ints_length, isInts_ints, toInts_ints, ei_i, ei_ok, mk_headD, ints_take, ints_drop, ints_append, ints_snoc, ints_snoc', List.take_length, Nat.zero_add, Nat.le_refl, er_a, er_b, er_k, er_n, er_s, er_v, ep_a, ep_b, ep_hk, ep_hn, ep_hs, ep_wk, ep_wn, ep_ws, Nat.lt_irrefl]⟩
      rw [List.take_length, h, List.take_length] at hi
      rw [k14_0x1, fd_leaf, decide_eq_true hi]
  · have h' : ¬ (l.length : Int) = m.length := by omega
    rw [if_pos h', decide_eq_false (fun e => h (by rw [e]))]
theorem f25 (l m : List Piece) (nl : Option Bool) (tt : Bool) (nl2 : Option Bool) (t2 : Bool) (hl : l.length < 4294967296) : call E 25 [.c (.sl 8 nl tt (pcs l)), .c (.sl 8 nl2 t2 (pcs m))] [] = some ([V.b (decide (l = m))], []) := by
  refine call_of (E := E) (sh := sh) (ct := ctOf []) (na := 2) (m := 0) ctOf_nil rfl rfl rfl rfl rfl rfl ?_
  rw [t25]
  simp only [ld_br, ld_chk', ld_leaf, fd_br, fd_chk', fd_leaf, decide_true, decide_eq_true_eq, if_true, Int.toNat_natCast, Int.natCast_nonneg, Int.ofNat_lt, Int.ofNat_le, Bool.false_eq_true, if_false, bne_iff_ne, beq_iff_eq, ne_eq, not_true_eq_false, not_false_eq_true, Bool.not_eq_true', decide_eq_false_iff_not, reduceCtorEq, rows_length, pcs_length, er_ok, er_ok', ep_ok, ep_ok', dr_er, dp_ep, isRows_rows, isPcs_pcs, toRows_rows, toPcs_pcs, rows_take, rows_drop, pcs_take, pcs_drop, rows_append, pcs_append, ints_length, isInts_ints, toInts_ints, ei_i, ei_ok, mk_headD, ints_take, ints_drop, ints_append, ints_snoc, ints_snoc', List.take_length, Nat.zero_add, Nat.le_refl, er_a, er_b, er_k, er_n, er_s, er_v, ep_a, ep_b, ep_hk, ep_hn, ep_hs, ep_wk, ep_wn, ep_ws]
  by_cases h : l.length = m.length
  · have h' : ¬ ¬ (l.length : Int) = m.length := by omega
    rw [if_neg h']
    refine fd_post ctOf_nil (by kernel_rfl) rfl (list_post ctOf_nil (b := b25_0) l.length (fun k (_ : Unit) => s25_0 nl tt (pcs l) nl2 t2 (pcs m) k) (fun k _ => l.take k = m.take k) _ ?_ ?_ 0 (Nat.zero_le _) () (by rfl))
    · intro k _ hk hi
      have hm : k < m.length := by omega
      rw [t25_0]
      simp only [ld_br, ld_chk', ld_leaf, fd_br, fd_chk', fd_leaf, decide_true, decide_eq_true_eq, if_true, Int.toNat_natCast, Int.natCast_nonneg, Int.ofNat_lt, Int.ofNat_le, Bool.false_eq_true, if_false, bne_iff_ne, beq_iff_eq, ne_eq, not_true_eq_false, not_false_eq_true, Bool.not_eq_true', decide_eq_false_iff_not, reduceCtorEq, rows_length, pcs_length, er_ok, er_ok', ep_ok, ep_ok', dr_er, dp_ep, isRows_rows, isPcs_pcs, toRows_rows, toPcs_pcs, rows_take, rows_drop, pcs_take, pcs_drop, rows_append, pcs_append, ints_length, isInts_ints, toInts_ints, ei_i, ei_ok, mk_headD, ints_take, ints_drop, ints_append, ints_snoc, ints_snoc', List.take_length, Nat.zero_add, Nat.le_refl, er_a, er_b, er_k, er_n, er_s, er_v, ep_a, ep_b, ep_hk, ep_hn, ep_hs, ep_wk, ep_wn, ep_ws, hk, hm, pcs_getD hk, pcs_getD hm, pc_eqb, wrap_succ (show k < 9223372036854775807 by omega)]
      by_cases he : l[k] = m[k]
      · left
        exact ⟨(), take_ext hi hk hm he, by simp [he]⟩
      · right
        refine ⟨x25_0x0, by simp, ?_, by simp [he]⟩
        rw [k25_0x0, fd_leaf, decide_eq_false (fun e => he (by subst e; rfl))]
    · intro _ hi
      rw [t25_0]
      refine ⟨x25_0x1 nl tt (pcs l) nl2 t2 (pcs m) l.length, by simp, ?_, by simp only [ld_br, ld_chk', ld_leaf, fd_br, fd_chk', fd_leaf, decide_true, decide_eq_true_eq, if_true, Int.toNat_natCast, Int.natCast_nonneg, Int.ofNat_lt, Int.ofNat_le, Bool.false_eq_true, if_false, bne_iff_ne, beq_iff_eq, ne_eq, not_true_eq_false, not_false_eq_true, Bool.not_eq_true', decide_eq_false_iff_not, reduceCtorEq, rows_length, pcs_length, er_ok, er_ok', ep_ok, ep_ok', dr_er, dp_ep, isRows_rows, isPcs_pcs, toRows_rows, toPcs_pcs, rows_take, rows_drop, pcs_take, pcs_drop, rows_append, pcs_append, ints_length, isInts_ints, toInts_ints, ei_i, ei_ok, mk_headD, ints_take, ints_drop, ints_append, ints_snoc, ints_snoc', List.take_length, Nat.zero_add, Nat.le_refl, er_a, er_b, er_k, er_n, er_s, er_v, ep_a, ep_b, ep_hk, ep_hn, ep_hs, ep_wk, ep_wn, ep_ws, Nat.lt_irrefl]⟩
      rw [List.take_length, h, List.take_length] at hi
      rw [k25_0x1, fd_leaf, decide_eq_true hi]
  · have h' : ¬ (l.length : Int) = m.length := by omega
    rw [if_pos h', decide_eq_false (fun e => h (by rw [e]))]
end Go.Proofs.YtedniogmjhhhmaaDoor
