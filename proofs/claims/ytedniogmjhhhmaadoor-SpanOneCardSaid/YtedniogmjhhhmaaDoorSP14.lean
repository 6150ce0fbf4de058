/-
  Chapter 02 (span): the laws' small functions.
-/
import Derived.Test.YtedniogmjhhhmaaDoorST10
set_option linter.all false
set_option linter.unusedSimpArgs false
set_option linter.unusedVariables false
namespace Go.Proofs.YtedniogmjhhhmaaDoor
open Go Go.Ev

def fewL (l : List Row) : Bool := decide (l.length ≤ 80) && l.all fun r => decide (r.v.s.length ≤ 200)
theorem f9 (l : List Row) (nl : Option Bool) (tt : Bool) : call E 9 [.c (.sl 5 nl tt (rows l))] [] = some ([V.b (fewL l)], []) := by
  refine call_of (E := E) (sh := sh) (ct := ctOf []) (na := 1) (m := 0) ctOf_nil rfl rfl rfl rfl rfl rfl ?_
  rw [t9]
  simp only [fd_br, fd_leaf, rows_length, decide_eq_true_eq]
  unfold fewL
  by_cases hl : (80 : Int) < l.length
  · rw [if_pos hl, decide_eq_false (by omega)]; rfl
  · rw [if_neg hl, decide_eq_true (by omega), Bool.true_and]
    refine fd_post ctOf_nil (by kernel_rfl) rfl (list_post ctOf_nil (b := b9_0) l.length (fun k (_ : Unit) => s9_0 nl tt (rows l) k) (fun k _ => ((l.drop k).all fun r => decide (r.v.s.length ≤ 200)) = l.all fun r => decide (r.v.s.length ≤ 200)) _ ?_ ?_ 0 (Nat.zero_le _) () (by rfl))
    · intro k _ hk hi
      rw [List.drop_eq_getElem_cons hk, List.all_cons] at hi
      rw [t9_0]
      simp only [ld_br, ld_chk', ld_leaf, fd_br, fd_chk', fd_leaf, decide_true, decide_eq_true_eq, if_true, Int.toNat_natCast, Int.natCast_nonneg, Int.ofNat_lt, Int.ofNat_le, Bool.false_eq_true, if_false, bne_iff_ne, beq_iff_eq, ne_eq, not_true_eq_false, not_false_eq_true, Bool.not_eq_true', decide_eq_false_iff_not, reduceCtorEq, rows_length, pcs_length, er_ok, er_ok', ep_ok, ep_ok', dr_er, dp_ep, isRows_rows, isPcs_pcs, toRows_rows, toPcs_pcs, rows_take, rows_drop, pcs_take, pcs_drop, rows_append, pcs_append, ints_length, isInts_ints, toInts_ints, ei_i, ei_ok, mk_headD, ints_take, ints_drop, ints_append, ints_snoc, ints_snoc', List.take_length, Nat.zero_add, Nat.le_refl, er_a, er_b, er_k, er_n, er_s, er_v, ep_a, ep_b, ep_hk, ep_hn, ep_hs, ep_wk, ep_wn, ep_ws, hk, rows_getD hk, wrap_succ (show k < 9223372036854775807 by omega)]
      by_cases h1 : (200 : Int) < l[k].v.s.length
      · right
        refine ⟨x9_0x0, by simp, ?_, by rw [if_pos h1]⟩
        rw [k9_0x0, fd_leaf, ← hi, decide_eq_false (by omega)]; rfl
      · left
        refine ⟨(), ?_, by rw [if_neg h1]⟩
        rw [← hi, decide_eq_true (by omega), Bool.true_and]
    · intro _ hi
      rw [List.drop_length] at hi
      rw [t9_0]
      refine ⟨x9_0x1 nl tt (rows l) l.length, by simp, ?_, by simp only [ld_br, ld_chk', ld_leaf, fd_br, fd_chk', fd_leaf, decide_true, decide_eq_true_eq, if_true, Int.toNat_natCast, Int.natCast_nonneg, Int.ofNat_lt, Int.ofNat_le, Bool.false_eq_true, if_false, bne_iff_ne, beq_iff_eq, ne_eq, not_true_eq_false, not_false_eq_true, Bool.not_eq_true', decide_eq_false_iff_not, reduceCtorEq, rows_length, pcs_length, er_ok, er_ok', ep_ok, ep_ok', dr_er, dp_ep, isRows_rows, isPcs_pcs, toRows_rows, toPcs_pcs, rows_take, rows_drop, pcs_take, pcs_drop, rows_append, pcs_append, ints_length, isInts_ints, toInts_ints, ei_i, ei_ok, mk_headD, ints_take, ints_drop, ints_append, ints_snoc, ints_snoc', List.take_length, Nat.zero_add, Nat.le_refl, er_a, er_b, er_k, er_n, er_s, er_v, ep_a, ep_b, ep_hk, ep_hn, ep_hs, ep_wk, ep_wn, ep_ws, Nat.lt_irrefl]⟩
      rw [k9_0x1, fd_leaf, ← hi]; rfl
theorem s9_ok : CSpecOk E 9 s9 := by
  intro a h cs vals h' he hc
  unfold s9 at he
  split at he <;> simp only [Option.some.injEq, Prod.mk.injEq, reduceCtorEq] at he
  rename_i nl tt xs
  obtain ⟨rfl, rfl, rfl⟩ := he
  simp only [allT, Bool.and_true, decide_eq_true_eq] at hc
  have := f9 (toRows xs) nl tt
  rw [← rows_of hc, fewL, toRows_length] at this
  exact this
theorem s29_ok : CSpecOk E 29 s29 := by
  intro a h cs vals h' he hc
  unfold s29 at he
  split at he <;> simp only [Option.some.injEq, Prod.mk.injEq, reduceCtorEq] at he
  obtain ⟨rfl, rfl, rfl⟩ := he
  refine call_of (E := E) (sh := sh) (ct := ctOf []) (na := 1) (m := 0) ctOf_nil rfl rfl rfl rfl rfl rfl ?_
  rw [t29, fd_leaf]
theorem s15_ok : CSpecOk E 15 s15 := by
  intro a h cs vals h' he hc
  unfold s15 at he
  split at he <;> simp only [Option.some.injEq, Prod.mk.injEq, reduceCtorEq] at he
  rename_i nl tt xs a b k m s
  obtain ⟨rfl, rfl, rfl⟩ := he
  simp only [allT, Bool.and_true, decide_eq_true_eq] at hc
  have := f15 (toRows xs) nl tt a b ⟨k, m, s⟩
  rwa [← rows_of hc] at this
theorem s18_ok : CSpecOk E 18 s18 := by
  intro a h cs vals h' he hc
  unfold s18 s15 at he
  split at he <;> simp only [Option.some.injEq, Prod.mk.injEq, reduceCtorEq] at he
  rename_i nl tt xs a b k m s
  obtain ⟨rfl, rfl, rfl⟩ := he
  simp only [allT, Bool.and_true, decide_eq_true_eq] at hc
  have := f18 (toRows xs) nl tt a b ⟨k, m, s⟩
  rwa [← rows_of hc] at this
theorem s16_ok : CSpecOk E 16 s16 := by
  intro a h cs vals h' he hc
  unfold s16 at he
  split at he <;> simp only [Option.some.injEq, Prod.mk.injEq, reduceCtorEq] at he
  rename_i nl tt xs a b
  obtain ⟨rfl, rfl, rfl⟩ := he
  simp only [allT, Bool.and_true, decide_eq_true_eq] at hc
  have := f16 (toRows xs) nl tt a b
  rwa [← rows_of hc] at this
theorem s19_ok : CSpecOk E 19 s19 := by
  intro a h cs vals h' he hc
  unfold s19 s16 at he
  split at he <;> simp only [Option.some.injEq, Prod.mk.injEq, reduceCtorEq] at he
  rename_i nl tt xs a b
  obtain ⟨rfl, rfl, rfl⟩ := he
  simp only [allT, Bool.and_true, decide_eq_true_eq] at hc
  have := f19 (toRows xs) nl tt a b
  rwa [← rows_of hc] at this
theorem s17_ok : CSpecOk E 17 s17 := by
  intro a h cs vals h' he hc
  unfold s17 at he
  split at he <;> simp only [Option.some.injEq, Prod.mk.injEq, reduceCtorEq] at he
  rename_i nl tt xs a b
  obtain ⟨rfl, rfl, rfl⟩ := he
  simp only [allT, Bool.and_true, decide_eq_true_eq] at hc
  have := f17 (toRows xs) nl tt a b
  rwa [← rows_of hc] at this
theorem s22_ok : CSpecOk E 22 s22 := by
  intro a h cs vals h' he hc
  unfold s22 s17 at he
  split at he <;> simp only [Option.some.injEq, Prod.mk.injEq, reduceCtorEq] at he
  rename_i nl tt xs a b
  obtain ⟨rfl, rfl, rfl⟩ := he
  simp only [allT, Bool.and_true, decide_eq_true_eq] at hc
  have := f22 (toRows xs) nl tt a b
  rwa [← rows_of hc] at this
theorem s14_ok : CSpecOk E 14 s14 := by
  intro a h cs vals h' he hc
  unfold s14 at he
  split at he <;> simp only [Option.some.injEq, Prod.mk.injEq, reduceCtorEq] at he
  rename_i nl tt xs nl2 t2 ys
  obtain ⟨rfl, rfl, rfl⟩ := he
  simp only [allT, Bool.and_eq_true, and_true, decide_eq_true_eq] at hc
  have := f14 (toRows xs) (toRows ys) nl tt nl2 t2 (by rw [toRows_length]; exact hc.2.2)
  rwa [← rows_of hc.1, ← rows_of hc.2.1] at this
theorem s25_ok : CSpecOk E 25 s25 := by
  intro a h cs vals h' he hc
  unfold s25 at he
  split at he <;> simp only [Option.some.injEq, Prod.mk.injEq, reduceCtorEq] at he
  rename_i nl tt xs nl2 t2 ys
  obtain ⟨rfl, rfl, rfl⟩ := he
  simp only [allT, Bool.and_eq_true, and_true, decide_eq_true_eq] at hc
  have := f25 (toPcs xs) (toPcs ys) nl tt nl2 t2 (by rw [toPcs_length]; exact hc.2.2)
  rwa [← pcs_of hc.1, ← pcs_of hc.2.1] at this
theorem s13_ok : CSpecOk E 13 s13 := by
  intro a h cs vals h' he hc
  unfold s13 at he
  split at he <;> simp only [Option.some.injEq, Prod.mk.injEq, reduceCtorEq] at he
  rename_i nl tt xs nl2 t2 ys
  obtain ⟨rfl, rfl, rfl⟩ := he
  simp only [allT, Bool.and_eq_true, and_true, decide_eq_true_eq] at hc
  have := f13' (toRows xs) (toRows ys) nl tt nl2 t2
  rwa [← rows_of hc.1, ← rows_of hc.2] at this
theorem s26_ok : CSpecOk E 26 s26 := by
  intro a h cs vals h' he hc
  unfold s26 s13 at he
  split at he <;> simp only [Option.some.injEq, Prod.mk.injEq, reduceCtorEq] at he
  rename_i nl tt xs nl2 t2 ys
  obtain ⟨rfl, rfl, rfl⟩ := he
  simp only [allT, Bool.and_eq_true, and_true, decide_eq_true_eq] at hc
  have := f26 (toRows xs) (toRows ys) nl tt nl2 t2
  rwa [← rows_of hc.1, ← rows_of hc.2] at this
theorem s20_ok : CSpecOk E 20 s20 := by
  intro a h cs vals h' he hc
  unfold s20 at he
  split at he <;> simp only [Option.some.injEq, Prod.mk.injEq, reduceCtorEq] at he
  rename_i nl tt xs t
  obtain ⟨rfl, rfl, rfl⟩ := he
  simp only [allT, Bool.and_true, decide_eq_true_eq] at hc
  have := f20 (toRows xs) nl tt t
  rwa [← rows_of hc] at this
theorem s21_ok : CSpecOk E 21 s21 := by
  intro a h cs vals h' he hc
  unfold s21 s10 at he
  split at he <;> simp only [Option.some.injEq, Prod.mk.injEq, reduceCtorEq] at he
  rename_i nl tt xs
  obtain ⟨rfl, rfl, rfl⟩ := he
  simp only [allT, Bool.and_true, decide_eq_true_eq] at hc
  have := f21 (toRows xs) nl tt
  rwa [← rows_of hc] at this
theorem s23_ok : CSpecOk E 23 s23 := by
  intro a h cs vals h' he hc
  unfold s23 at he
  split at he <;> simp only [Option.some.injEq, Prod.mk.injEq, reduceCtorEq] at he
  rename_i xs nl2 t2 ys
  obtain ⟨rfl, rfl, rfl⟩ := he
  simp only [allT, Bool.and_eq_true, and_true, decide_eq_true_eq] at hc
  have := f23 (toRows xs) (toPcs ys) nl2 t2 (by rw [toPcs_length]; exact hc.2.2)
  rwa [← rows_of hc.1, ← pcs_of hc.2.1] at this
theorem s24_ok : CSpecOk E 24 s24 := by
  intro a h cs vals h' he hc
  unfold s24 at he
  split at he <;> simp only [Option.some.injEq, Prod.mk.injEq, reduceCtorEq] at he
  rename_i nl tt xs nl2 t2 ys
  obtain ⟨rfl, rfl, rfl⟩ := he
  simp only [allT, Bool.and_eq_true, and_true, decide_eq_true_eq] at hc
  have := f24 (toRows xs) (toPcs ys) nl tt nl2 t2 (by rw [toPcs_length]; exact hc.2.2)
  rwa [← rows_of hc.1, ← pcs_of hc.2.1] at this
theorem ctX_ok : ctX.ok E := ctOf_cons s9_ok (ctOf_cons s10_ok (ctOf_cons s12_ok (ctOf_cons s13_ok (ctOf_cons s14_ok (ctOf_cons s15_ok (ctOf_cons s16_ok (ctOf_cons s17_ok (ctOf_cons s18_ok (ctOf_cons s19_ok (ctOf_cons s20_ok (ctOf_cons s21_ok (ctOf_cons s22_ok (ctOf_cons s23_ok (ctOf_cons s24_ok (ctOf_cons s25_ok (ctOf_cons s26_ok (ctOf_cons s29_ok ctOf_nil)))))))))))))))))
theorem diffR_had {x y : List Row} (hx : right x = true) (hy : right y = true) : diffR x y = diffG (hadF x) (hadF y) (pairsOf (bndR (bndR [] x) y)) [] := by
  unfold diffR
  rw [if_pos ⟨hx, hy⟩, bnds_eq, diffG_congr (atR_had (right_okN hx)) (atR_had (right_okN hy))]
theorem f11 : call E 11 [] [] = some ([V.b true], []) := by
  refine call_of (E := E) (sh := sh) (ct := ctX) (na := 0) (m := 0) ctX_ok rfl rfl rfl rfl rfl rfl ?_
  rw [t11]
  have hd : diffR [⟨0, 4, ⟨1, 7, []⟩⟩, ⟨4, 6, ⟨1, 8, []⟩⟩, ⟨6, 10, ⟨1, 7, []⟩⟩] [⟨0, 10, ⟨1, 7, []⟩⟩] = [⟨4, 6, ⟨1, 8, []⟩, ⟨1, 7, []⟩⟩] := by
    rw [diffR_had (by kernel_rfl) (by kernel_rfl)]
    kernel_rfl
  have e1 : putR [] 0 10 ⟨1, 7, []⟩ = [⟨0, 10, ⟨1, 7, []⟩⟩] := by kernel_rfl
  have e2 : putR [⟨0, 10, ⟨1, 7, []⟩⟩] 4 6 ⟨1, 8, []⟩ = [⟨0, 4, ⟨1, 7, []⟩⟩, ⟨4, 6, ⟨1, 8, []⟩⟩, ⟨6, 10, ⟨1, 7, []⟩⟩] := by kernel_rfl
  have e3 : putR [⟨0, 4, ⟨1, 7, []⟩⟩, ⟨4, 6, ⟨1, 8, []⟩⟩, ⟨6, 10, ⟨1, 7, []⟩⟩] 4 6 ⟨1, 7, []⟩ = [⟨0, 10, ⟨1, 7, []⟩⟩] := by kernel_rfl
  have e0 : toRows [] = [] := rfl
  have e4 : [[C.int .i64 4, C.int .i64 6, C.int .i64 1, C.int .i64 8, C.str [], C.int .i64 1, C.int .i64 7, C.str []]] = pcs [⟨4, 6, ⟨1, 8, []⟩, ⟨1, 7, []⟩⟩] := rfl
  simp only [fd_br, fd_chk', fd_leaf, if_true, toRows_rows, e0, e1, e2, e3, hd, e4, isPcs_pcs, pcs_length, toPcs_pcs, List.length_cons, List.length_nil]
  rfl
theorem s11_ok : CSpecOk E 11 s11 := by
  intro a h cs vals h' he hc
  unfold s11 at he
  split at he <;> simp only [Option.some.injEq, Prod.mk.injEq, reduceCtorEq] at he
  obtain ⟨rfl, rfl, rfl⟩ := he
  exact f11
theorem ctL_ok : ctL.ok E := ctOf_cons s9_ok (ctOf_cons s10_ok (ctOf_cons s12_ok (ctOf_cons s13_ok (ctOf_cons s14_ok (ctOf_cons s15_ok (ctOf_cons s16_ok (ctOf_cons s17_ok (ctOf_cons s18_ok (ctOf_cons s19_ok (ctOf_cons s20_ok (ctOf_cons s21_ok (ctOf_cons s22_ok (ctOf_cons s23_ok (ctOf_cons s24_ok (ctOf_cons s25_ok (ctOf_cons s26_ok (ctOf_cons s11_ok ctOf_nil)))))))))))))))))
end Go.Proofs.YtedniogmjhhhmaaDoor
