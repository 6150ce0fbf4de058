/-
  Chapter 02 (span): the laws, but for their arguments' reading: the rest.
-/
import Derived.Test.YtedniogmjhhhmaaDoorSL1
import Derived.Test.YtedniogmjhhhmaaDoorSM4
set_option linter.all false
set_option linter.unusedSimpArgs false
set_option linter.unusedVariables false
namespace Go.Proofs.YtedniogmjhhhmaaDoor
open Go Go.Ev

theorem f7 (x y : List Row) (d : List Piece) : call E 7 [.c (.sl 5 none false (rows x)), .c (.sl 5 none false (rows y)), .c (.sl 8 none false (pcs d))] [] = some ([V.b true], []) := by
  refine call_of (E := E) (sh := sh) (ct := ctL) (na := 3) (m := 0) ctL_ok rfl rfl rfl rfl rfl rfl ?_
  rw [t7]
  simp only [fd_br, fd_chk', fd_leaf, isRows_rows, if_true, toRows_rows, rows_length, few_fold, pcs_length]
  cases hf : fewL x
  · simp
  cases hg : fewL y
  · simp
  by_cases hd : (200 : Int) < d.length
  · simp [hd]
  simp only [Bool.not_true, Bool.false_eq_true, if_false, decide_eq_true_eq, hd]
  refine fd_post ctL_ok (by kernel_rfl) rfl (list_post (p := p7) ctL_ok (b := b7_0) d.length (fun k (_ : Unit) => s7_0 (rows x) (rows y) (pcs d) none false none false none false k) (fun _ _ => True) _ ?_ ?_ 0 (Nat.zero_le _) () trivial)
  · intro k _ hk _
    rw [t7_0]
    simp only [ld_br, ld_chk', ld_leaf, fd_br, fd_chk', fd_leaf, decide_true, decide_eq_true_eq, if_true, Int.toNat_natCast, Int.natCast_nonneg, Int.ofNat_lt, Int.ofNat_le, Bool.false_eq_true, if_false, bne_iff_ne, beq_iff_eq, ne_eq, not_true_eq_false, not_false_eq_true, Bool.not_eq_true', decide_eq_false_iff_not, reduceCtorEq, rows_length, pcs_length, er_ok, er_ok', ep_ok, ep_ok', dr_er, dp_ep, isRows_rows, isPcs_pcs, toRows_rows, toPcs_pcs, rows_take, rows_drop, pcs_take, pcs_drop, rows_append, pcs_append, ints_length, isInts_ints, toInts_ints, ei_i, ei_ok, mk_headD, ints_take, ints_drop, ints_append, ints_snoc, ints_snoc', List.take_length, Nat.zero_add, Nat.le_refl, er_a, er_b, er_k, er_n, er_s, er_v, ep_a, ep_b, ep_hk, ep_hn, ep_hs, ep_wk, ep_wn, ep_ws, hk, pcs_getD hk, wrap_succ (show k < 9223372036854775807 by omega)]
    have ex0 : p7.fd (p7.fkx 0 x7_0x0) = some (.out [V.b true] []) := by rw [k7_0x0, fd_leaf]
    by_cases h1 : (200 : Int) < d[k].h.s.length
    · right; exact ⟨x7_0x0, by simp, ex0, by rw [if_pos h1]⟩
    · by_cases h2 : (200 : Int) < d[k].w.s.length
      · right; exact ⟨x7_0x0, by simp, ex0, by rw [if_neg h1, if_pos h2]⟩
      · left; exact ⟨(), trivial, by rw [if_neg h1, if_neg h2]⟩
  · intro _ _
    rw [t7_0]
    refine ⟨x7_0x1 (rows x) (rows y) (pcs d) none false none false none false d.length, by simp, ?_, by simp only [ld_br, ld_chk', ld_leaf, fd_br, fd_chk', fd_leaf, decide_true, decide_eq_true_eq, if_true, Int.toNat_natCast, Int.natCast_nonneg, Int.ofNat_lt, Int.ofNat_le, Bool.false_eq_true, if_false, bne_iff_ne, beq_iff_eq, ne_eq, not_true_eq_false, not_false_eq_true, Bool.not_eq_true', decide_eq_false_iff_not, reduceCtorEq, rows_length, pcs_length, er_ok, er_ok', ep_ok, ep_ok', dr_er, dp_ep, isRows_rows, isPcs_pcs, toRows_rows, toPcs_pcs, rows_take, rows_drop, pcs_take, pcs_drop, rows_append, pcs_append, ints_length, isInts_ints, toInts_ints, ei_i, ei_ok, mk_headD, ints_take, ints_drop, ints_append, ints_snoc, ints_snoc', List.take_length, Nat.zero_add, Nat.le_refl, er_a, er_b, er_k, er_n, er_s, er_v, ep_a, ep_b, ep_hk, ep_hn, ep_hs, ep_wk, ep_wn, ep_ws, Nat.lt_irrefl]⟩
    have := t7k (rows x) (rows y) (pcs d) d.length
    show p7.fd (p7.fkx 0 (Ex.exit 0, _, _)) = _
    rw [this]
    have l1 := applyR_len x d
    have l2 := diffR_len x y
    simp [fd_br, fd_chk', fd_leaf, show d.length < 10000 by omega, show (applyR x d).length < 4294967296 by omega, show (diffR x y).length < 4294967296 by omega]

theorem at_put {l : List Row} {a b : Int} {v : Val} {t : Int} (h : putE l a b v = 0) : right (putR l a b v) = true ∧ checkV v = 0 ∧ atP (putR l a b v) t = if a ≤ t ∧ t < b then v else atP l t := by
  unfold putE turnE at h
  split at h
  case isFalse => simp at h
  rename_i hv
  split at h
  case isFalse => simp at h
  rename_i hr
  split at h
  case isFalse => simp at h
  rename_i hs
  unfold fewE at h
  split at h
  case isFalse => simp at h
  rename_i hl
  have e : putR l a b v = overR l a b v := by
    unfold putR turnR fewR
    rw [if_pos hv, if_pos hr, if_pos hs, if_pos hl]
  have hk := checkV_k hv
  have hrt := over_right hr hs (fun _ => hv) hl
  rw [e]
  refine ⟨hrt, hv, ?_⟩
  rw [atP_had hrt, atP_had hr, (overR_sem (right_okN hr) (isSpan_lt hs) v).2.1 t]
  unfold valOr
  rw [if_neg hk]
theorem at_cut {l : List Row} {a b : Int} {t : Int} (h : turnE l a b Val.none = 0) : right (turnR l a b Val.none) = true ∧ atP (turnR l a b Val.none) t = if a ≤ t ∧ t < b then Val.none else atP l t := by
  unfold turnE at h
  split at h
  case isFalse => simp at h
  rename_i hr
  split at h
  case isFalse => simp at h
  rename_i hs
  unfold fewE at h
  split at h
  case isFalse => simp at h
  rename_i hl
  have e : turnR l a b Val.none = overR l a b Val.none := by
    unfold turnR fewR
    rw [if_pos hr, if_pos hs, if_pos hl]
  have hrt := over_right hr hs (v := Val.none) (fun hk => absurd rfl hk) hl
  rw [e]
  refine ⟨hrt, ?_⟩
  rw [atP_had hrt, atP_had hr, (overR_sem (right_okN hr) (isSpan_lt hs) Val.none).2.1 t]
  rfl
theorem none_k : Val.none.k = 0 := rfl
theorem none_n : Val.none.n = 0 := rfl
theorem none_s : Val.none.s = [] := rfl
theorem checkR_right {l : List Row} (h : right l = true) : checkR l = 0 := by unfold checkR; rw [if_pos h]
theorem f4 (l : List Row) (a b : Int) (v : Val) (t : Int) : call E 4 [.c (.sl 5 none false (rows l)), V.i a, V.i b, VV v, V.i t] [] = some ([V.b true], []) := by
  obtain ⟨k, m, s⟩ := v
  refine call_of (E := E) (sh := sh) (ct := ctL) (na := 5) (m := 0) ctL_ok rfl rfl rfl rfl rfl rfl ?_
  rw [t4]
  have l1 := turnR_len l a b Val.none
  have l2 := putR_len l a b ⟨k, m, s⟩
  simp only [fd_br, fd_chk', fd_leaf, isRows_rows, if_true, toRows_rows, rows_length, few_fold]
  cases hf : fewL l
  · simp
  have hl := few_len hf
  by_cases hs : (200 : Int) < s.length
  · simp [hs]
  simp only [Bool.not_true, Bool.false_eq_true, if_false, decide_eq_true_eq, hs, show l.length ≤ 4294967296 by omega, show (putR l a b ⟨k, m, s⟩).length ≤ 4294967296 by omega, show (turnR l a b Val.none).length ≤ 4294967296 by omega, decide_true, if_true, beq_iff_eq, Bool.not_eq_true']
  have hcut : ∀ {r : Option R}, r = some (.out [V.b true] []) → True := fun _ => trivial
  by_cases hp : putE l a b ⟨k, m, s⟩ = 0
  · obtain ⟨p1, p2, p3⟩ := at_put (t := t) hp
    have hk : ¬ k = 0 := checkV_k p2
    by_cases hc : turnE l a b Val.none = 0
    · obtain ⟨c1, c2⟩ := at_cut (t := t) hc
      by_cases ht1 : a ≤ t <;> by_cases ht2 : t < b <;> simp [hp, hc, p3, c2, ht1, ht2, checkR_right p1, checkR_right c1, hk, none_k, none_n, none_s]
    · by_cases ht1 : a ≤ t <;> by_cases ht2 : t < b <;> simp [hp, hc, p3, ht1, ht2, checkR_right p1, hk]
  · by_cases hc : turnE l a b Val.none = 0
    · obtain ⟨c1, c2⟩ := at_cut (t := t) hc
      by_cases ht1 : a ≤ t <;> by_cases ht2 : t < b <;> simp [hp, hc, c2, ht1, ht2, checkR_right c1, none_k, none_n, none_s]
    · simp [hp, hc]
theorem f5 (l : List Row) (a b t : Int) : call E 5 [.c (.sl 5 none false (rows l)), V.i a, V.i b, V.i t] [] = some ([V.b true], []) := by
  refine call_of (E := E) (sh := sh) (ct := ctL) (na := 4) (m := 0) ctL_ok rfl rfl rfl rfl rfl rfl ?_
  rw [t5]
  have l1 := clipR_len l a b
  have l2 := clipR_len l b a
  have l3 := clipR_len (clipR l a b) a b
  simp only [fd_br, fd_chk', fd_leaf, isRows_rows, if_true, toRows_rows, rows_length, few_fold, checkR_ne]
  cases hf : fewL l
  · simp
  have hl := few_len hf
  cases hr : right l
  · simp
  obtain ⟨c1, c2⟩ := clip_sem hr a b
  have hat : atP (clipR l a b) t = if a ≤ t ∧ t < b then atP l t else Val.none := by rw [atP_had c1, atP_had hr, c2 t]
  by_cases ht1 : a ≤ t <;> by_cases ht2 : t < b <;> simp [hat, ht1, ht2, checkR_right c1, clip_twice hr, none_k, none_n, none_s, show l.length ≤ 4294967296 by omega, show (clipR l a b).length ≤ 4294967296 by omega, show (clipR l a b).length < 4294967296 by omega, show ((clipR l b a).length : Int) ≤ l.length by omega]
theorem pc_swap (acc : List Piece) (x : Piece) : pcs acc ++ [[C.int .i64 x.a, C.int .i64 x.b, C.int .i64 x.w.k, C.int .i64 x.w.n, C.str x.w.s, C.int .i64 x.h.k, C.int .i64 x.h.n, C.str x.h.s]] = pcs (acc ++ [swapP x]) := by simp [pcs, ep, swapP]
theorem mpa (r : Piece) (d : C) : (Sk.int .i64).mk ((ep r).headD d) = C.int .i64 r.a := rfl
theorem mpb (r : Piece) (d : C) : (Sk.int .i64).mk ((ep r).tail.headD d) = C.int .i64 r.b := rfl
theorem mph1 (r : Piece) (d : C) : (Sk.int .i64).mk ((ep r).tail.tail.headD d) = C.int .i64 r.h.k := rfl
theorem mph2 (r : Piece) (d : C) : (Sk.int .i64).mk ((ep r).tail.tail.tail.headD d) = C.int .i64 r.h.n := rfl
theorem mph3 (r : Piece) (d : C) : Sk.str.mk ((ep r).tail.tail.tail.tail.headD d) = C.str r.h.s := rfl
theorem mpw1 (r : Piece) (d : C) : (Sk.int .i64).mk ((ep r).tail.tail.tail.tail.tail.headD d) = C.int .i64 r.w.k := rfl
theorem mpw2 (r : Piece) (d : C) : (Sk.int .i64).mk ((ep r).tail.tail.tail.tail.tail.tail.headD d) = C.int .i64 r.w.n := rfl
theorem mpw3 (r : Piece) (d : C) : Sk.str.mk ((ep r).tail.tail.tail.tail.tail.tail.tail.headD d) = C.str r.w.s := rfl
theorem f8 (x y : List Row) : call E 8 [.c (.sl 5 none false (rows x)), .c (.sl 5 none false (rows y))] [] = some ([V.b true], []) := by
  refine call_of (E := E) (sh := sh) (ct := ctL) (na := 2) (m := 0) ctL_ok rfl rfl rfl rfl rfl rfl ?_
  rw [t8]
  have ld := diffR_len x y
  simp only [fd_br, fd_chk', fd_leaf, isRows_rows, isPcs_pcs, toPcs_pcs, if_true, toRows_rows, rows_length, pcs_length, few_fold, checkR_ne]
  cases hf : fewL x
  · simp
  cases hg : fewL y
  · simp
  cases hx : right x
  · simp
  cases hy : right y
  · simp
  obtain ⟨t1, t2⟩ := diff_turns hx hy
  obtain ⟨t3, t4⟩ := diff_turns hy hx
  have hsw := diff_swap x y
  have lx := right_len hx
  have ly := right_len hy
  simp only [Bool.not_true, Bool.false_eq_true, if_false, show (diffR x y).length < 10000 by omega, decide_true, if_true, t1, t2]
  generalize hds : diffR x y = ds at *
  refine fd_post ctL_ok (by kernel_rfl) rfl (list_post (p := p8) ctL_ok (b := b8_0) ds.length (fun k (s : List Piece) => s8_0 (rows x) (rows y) none false none false none false (pcs ds) none false (rows y) 0 s.length k (pcs s)) (fun k s => s = (ds.take k).map swapP) _ ?_ ?_ 0 (Nat.zero_le _) [] (by rfl))
  · rintro k s hk rfl
    have hlen : ((ds.take k).map swapP).length = k := by simp; omega
    have e1 : ((ds.take k).map swapP).length + 1 < 4294967296 := by omega
    have etk : List.take ((ds.take k).map swapP).length ((ds.take k).map swapP) = (ds.take k).map swapP := List.take_length
    rw [t8_0]
    simp only [ld_br, ld_chk', ld_leaf, fd_br, fd_chk', fd_leaf, decide_true, decide_eq_true_eq, if_true, Int.toNat_natCast, Int.natCast_nonneg, Int.ofNat_lt, Int.ofNat_le, Bool.false_eq_true, if_false, bne_iff_ne, beq_iff_eq, ne_eq, not_true_eq_false, not_false_eq_true, Bool.not_eq_true', decide_eq_false_iff_not, reduceCtorEq, rows_length, pcs_length, er_ok, er_ok', ep_ok, ep_ok', dr_er, dp_ep, isRows_rows, isPcs_pcs, toRows_rows, toPcs_pcs, rows_take, rows_drop, pcs_take, pcs_drop, rows_append, pcs_append, ints_length, isInts_ints, toInts_ints, ei_i, ei_ok, mk_headD, ints_take, ints_drop, ints_append, ints_snoc, ints_snoc', List.take_length, Nat.zero_add, Nat.le_refl, er_a, er_b, er_k, er_n, er_s, er_v, ep_a, ep_b, ep_hk, ep_hn, ep_hs, ep_wk, ep_wn, ep_ws, hk, pcs_getD hk, wrap_succ (show k < 9223372036854775807 by omega), e1, etk, mpa, mpb, mph1, mph2, mph3, mpw1, mpw2, mpw3, pc_swap]
    left
    refine ⟨(ds.take (k + 1)).map swapP, rfl, ?_⟩
    rw [show (ds.take (k + 1)).map swapP = (ds.take k).map swapP ++ [swapP ds[k]] by rw [List.take_succ, List.getElem?_eq_getElem hk]; simp only [Option.toList_some, List.map_append, List.map_cons, List.map_nil]]
    simp only [List.length_append, List.length_cons, List.length_nil, Nat.zero_add]
  · rintro s rfl
    rw [List.take_length, ← hsw, t8_0]
    refine ⟨x8_0x0 (rows x) (rows y) none false none false none false (pcs ds) none false (rows y) 0 (diffR y x).length ds.length (pcs (diffR y x)), by simp, ?_, by simp only [ld_br, ld_chk', ld_leaf, fd_br, fd_chk', fd_leaf, decide_true, decide_eq_true_eq, if_true, Int.toNat_natCast, Int.natCast_nonneg, Int.ofNat_lt, Int.ofNat_le, Bool.false_eq_true, if_false, bne_iff_ne, beq_iff_eq, ne_eq, not_true_eq_false, not_false_eq_true, Bool.not_eq_true', decide_eq_false_iff_not, reduceCtorEq, rows_length, pcs_length, er_ok, er_ok', ep_ok, ep_ok', dr_er, dp_ep, isRows_rows, isPcs_pcs, toRows_rows, toPcs_pcs, rows_take, rows_drop, pcs_take, pcs_drop, rows_append, pcs_append, ints_length, isInts_ints, toInts_ints, ei_i, ei_ok, mk_headD, ints_take, ints_drop, ints_append, ints_snoc, ints_snoc', List.take_length, Nat.zero_add, Nat.le_refl, er_a, er_b, er_k, er_n, er_s, er_v, ep_a, ep_b, ep_hk, ep_hn, ep_hs, ep_wk, ep_wn, ep_ws, Nat.lt_irrefl]⟩
    have := t8k (rows x) (rows y) (pcs ds) (rows y) (pcs (diffR y x)) 0 ds.length (diffR y x).length
    show p8.fd (p8.fkx 0 (Ex.exit 0, _, _)) = _
    have etk : List.take (diffR y x).length (pcs (diffR y x)) = pcs (diffR y x) := by rw [← pcs_length (diffR y x), List.take_length]
    have ld2 := diffR_len y x
    rw [this]
    simp [fd_br, fd_chk', fd_leaf, etk, t3, t4, show (diffR y x).length < 10000 by omega, show (diffR y x).length < 4294967296 by omega, show x.length < 4294967296 by omega, show y.length < 4294967296 by omega]
end Go.Proofs.YtedniogmjhhhmaaDoor
