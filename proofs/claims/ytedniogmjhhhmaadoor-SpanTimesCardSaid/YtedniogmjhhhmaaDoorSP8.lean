/-
  Chapter 02 (span): over, turn, Put, Cut, Clip; the reference's bounds, add, over, Same.
-/
import Derived.Test.YtedniogmjhhhmaaDoorST4
set_option linter.all false
set_option linter.unusedSimpArgs false
set_option linter.unusedVariables false
namespace Go.Proofs.YtedniogmjhhhmaaDoor
open Go Go.Ev

theorem maxI (x a : Int) : (if x < a then a else x) = max x a := by omega
theorem minI (x a : Int) : (if a < x then a else x) = min x a := by omega
theorem val_eta (v : Val) : (⟨v.k, v.n, v.s⟩ : Val) = v := rfl
theorem rows_len_toRows (l : List Row) : (toRows (rows l)).length = l.length := by rw [toRows_rows]
theorem s57_ok : CSpecOk E 57 s57 := by
  intro a h cs vals h' he hc
  unfold s57 at he
  split at he <;> simp only [Option.some.injEq, Prod.mk.injEq, reduceCtorEq] at he
  rename_i nl tt xs t
  obtain ⟨rfl, rfl, rfl⟩ := he
  simp only [allT, Bool.and_eq_true, and_true, decide_eq_true_eq] at hc
  have := f57 (toInts xs) nl tt t (by rw [toInts_length]; exact hc.2)
  rwa [← ints_of hc.1] at this
theorem s39_ok : CSpecOk E 39 s39 := by
  intro a h cs vals h' he hc
  unfold s39 at he
  split at he <;> simp only [Option.some.injEq, Prod.mk.injEq, reduceCtorEq] at he
  rename_i nl tt xs t
  obtain ⟨rfl, rfl, rfl⟩ := he
  simp only [allT, Bool.and_eq_true, and_true, decide_eq_true_eq] at hc
  have := f39 (toRows xs) nl tt t (by rw [toRows_length]; exact hc.2)
  rwa [← rows_of hc.1] at this
theorem s46_ok : CSpecOk E 46 s46 := by
  intro a h cs vals h' he hc
  unfold s46 at he
  split at he <;> simp only [Option.some.injEq, Prod.mk.injEq, reduceCtorEq] at he
  rename_i nl tt xs
  obtain ⟨rfl, rfl, rfl⟩ := he
  simp only [allT, Bool.and_eq_true, and_true, decide_eq_true_eq] at hc
  have := f46 (toRows xs) nl tt
  rwa [← rows_of hc] at this
theorem s37_ok : CSpecOk E 37 s37 := by
  intro a h cs vals h' he hc
  unfold s37 s46 at he
  split at he <;> simp only [Option.some.injEq, Prod.mk.injEq, reduceCtorEq] at he
  rename_i nl tt xs
  obtain ⟨rfl, rfl, rfl⟩ := he
  simp only [allT, Bool.and_eq_true, and_true, decide_eq_true_eq] at hc
  have := f37 (toRows xs) nl tt
  rwa [← rows_of hc] at this
theorem s12_ok : CSpecOk E 12 s12 := by
  intro a h cs vals h' he hc
  unfold s12 at he
  split at he <;> simp only [Option.some.injEq, Prod.mk.injEq, reduceCtorEq] at he
  rename_i nl tt xs t
  obtain ⟨rfl, rfl, rfl⟩ := he
  simp only [allT, Bool.and_eq_true, and_true, decide_eq_true_eq] at hc
  have := f12 (toRows xs) nl tt t (by rw [toRows_length]; exact hc.2)
  rwa [← rows_of hc.1] at this

/-! ## over -/
theorem f45 (l : List Row) (nl : Option Bool) (tt : Bool) (a b : Int) (v : Val) (hl : l.length < 1000000) : call E 45 [.c (.sl 5 nl tt (rows l)), V.i a, V.i b, VV v] [] = some ([.c (.sl 5 none false (rows (overR l a b v)))], []) := by
  have hct : (ctOf [(33, s33)]).ok E := ctOf_cons s33_ok ctOf_nil
  obtain ⟨vk, vn, vs⟩ := v
  refine call_of (E := E) (sh := sh) (ct := ctOf [(33, s33)]) (na := 4) (m := 0) hct rfl rfl rfl rfl rfl rfl ?_
  rw [t45]
  have hw : IntKind.wrap .i64 ((l.length : Int) + 2) = ((l.length + 2 : Nat) : Int) := by rw [wrap_same (by omega) (by omega)]; omega
  have e0 : ((l.length + 2 : Nat) : Int) < 4294967296 := by omega
  simp only [ld_br, ld_chk', ld_leaf, fd_br, fd_chk', fd_leaf, decide_true, decide_eq_true_eq, if_true, Int.toNat_natCast, Int.natCast_nonneg, Int.ofNat_lt, Int.ofNat_le, Bool.false_eq_true, if_false, bne_iff_ne, beq_iff_eq, ne_eq, not_true_eq_false, not_false_eq_true, Bool.not_eq_true', decide_eq_false_iff_not, reduceCtorEq, rows_length, pcs_length, er_ok, er_ok', ep_ok, ep_ok', dr_er, dp_ep, isRows_rows, isPcs_pcs, toRows_rows, toPcs_pcs, rows_take, rows_drop, pcs_take, pcs_drop, rows_append, pcs_append, ints_length, isInts_ints, toInts_ints, ei_i, ei_ok, mk_headD, ints_take, ints_drop, ints_append, ints_snoc, ints_snoc', List.take_length, Nat.zero_add, Nat.le_refl, er_a, er_b, er_k, er_n, er_s, er_v, ep_a, ep_b, ep_hk, ep_hn, ep_hs, ep_wk, ep_wn, ep_ws, hw, e0]
  refine fd_post hct (by kernel_rfl) rfl (list_post hct (b := b45_0) l.length (fun k (s : List Row × Bool) => s45_0 nl tt (rows l) a b vk vn vs s.1.length s.2 l.length k (rows s.1)) (fun k s => overG a b ⟨vk, vn, vs⟩ (l.drop k) s.1 s.2 = overR l a b ⟨vk, vn, vs⟩ ∧ s.1.length ≤ 3 * k) _ ?_ ?_ 0 (Nat.zero_le _) ([], false) ⟨rfl, by simp⟩)
  · rintro k ⟨acc, put⟩ hk ⟨hi, hlen⟩
    dsimp only at hi hlen
    rw [List.drop_eq_getElem_cons hk, overG] at hi
    have a1 := addR_len acc ⟨l[k].a, min l[k].b a, l[k].v⟩
    have a2 := addR_len (addR acc ⟨l[k].a, min l[k].b a, l[k].v⟩) ⟨a, b, ⟨vk, vn, vs⟩⟩
    have a3 := addR_len (addR (addR acc ⟨l[k].a, min l[k].b a, l[k].v⟩) ⟨a, b, ⟨vk, vn, vs⟩⟩) ⟨max l[k].a b, l[k].b, l[k].v⟩
    have a4 := addR_len (addR acc ⟨l[k].a, min l[k].b a, l[k].v⟩) ⟨max l[k].a b, l[k].b, l[k].v⟩
    have c1 : acc.length < 4294967290 := by omega
    have c2 : (addR acc ⟨l[k].a, min l[k].b a, l[k].v⟩).length < 4294967290 := by omega
    have c3 : (addR (addR acc ⟨l[k].a, min l[k].b a, l[k].v⟩) ⟨a, b, ⟨vk, vn, vs⟩⟩).length < 4294967290 := by omega
    have d3 : (addR (addR (addR acc ⟨l[k].a, min l[k].b a, l[k].v⟩) ⟨a, b, ⟨vk, vn, vs⟩⟩) ⟨max l[k].a b, l[k].b, l[k].v⟩).length ≤ 3 * (k + 1) := by omega
    have d4 : (addR (addR acc ⟨l[k].a, min l[k].b a, l[k].v⟩) ⟨max l[k].a b, l[k].b, l[k].v⟩).length ≤ 3 * (k + 1) := by omega
    rw [t45_0]
    simp only [ld_br, ld_chk', ld_leaf, fd_br, fd_chk', fd_leaf, decide_true, decide_eq_true_eq, if_true, Int.toNat_natCast, Int.natCast_nonneg, Int.ofNat_lt, Int.ofNat_le, Bool.false_eq_true, if_false, bne_iff_ne, beq_iff_eq, ne_eq, not_true_eq_false, not_false_eq_true, Bool.not_eq_true', decide_eq_false_iff_not, reduceCtorEq, rows_length, pcs_length, er_ok, er_ok', ep_ok, ep_ok', dr_er, dp_ep, isRows_rows, isPcs_pcs, toRows_rows, toPcs_pcs, rows_take, rows_drop, pcs_take, pcs_drop, rows_append, pcs_append, ints_length, isInts_ints, toInts_ints, ei_i, ei_ok, mk_headD, ints_take, ints_drop, ints_append, ints_snoc, ints_snoc', List.take_length, Nat.zero_add, Nat.le_refl, er_a, er_b, er_k, er_n, er_s, er_v, ep_a, ep_b, ep_hk, ep_hn, ep_hs, ep_wk, ep_wn, ep_ws, hk, rows_getD hk, wrap_succ (show k < 9223372036854775807 by omega), maxI, minI, val_eta, c1, c2, c3]
    left
    by_cases h1 : put = false ∧ a < l[k].b
    · rw [if_pos h1] at hi
      refine ⟨((addR (addR (addR acc ⟨l[k].a, min l[k].b a, l[k].v⟩) ⟨a, b, ⟨vk, vn, vs⟩⟩) ⟨max l[k].a b, l[k].b, l[k].v⟩), true), ⟨hi, d3⟩, ?_⟩
      simp [h1.1, h1.2]
    · rw [if_neg h1] at hi
      refine ⟨((addR (addR acc ⟨l[k].a, min l[k].b a, l[k].v⟩) ⟨max l[k].a b, l[k].b, l[k].v⟩), put), ⟨hi, d4⟩, ?_⟩
      cases put with
      | true => simp
      | false =>
        have h2 : ¬ a < l[k].b := fun h => h1 ⟨rfl, h⟩
        simp [h2]
  · rintro ⟨acc, put⟩ ⟨hi, hlen⟩
    dsimp only at hi hlen
    rw [t45_0]
    refine ⟨x45_0x0 nl tt (rows l) a b vk vn vs acc.length put l.length l.length (rows acc), by simp, ?_, by simp only [ld_br, ld_chk', ld_leaf, fd_br, fd_chk', fd_leaf, decide_true, decide_eq_true_eq, if_true, Int.toNat_natCast, Int.natCast_nonneg, Int.ofNat_lt, Int.ofNat_le, Bool.false_eq_true, if_false, bne_iff_ne, beq_iff_eq, ne_eq, not_true_eq_false, not_false_eq_true, Bool.not_eq_true', decide_eq_false_iff_not, reduceCtorEq, rows_length, pcs_length, er_ok, er_ok', ep_ok, ep_ok', dr_er, dp_ep, isRows_rows, isPcs_pcs, toRows_rows, toPcs_pcs, rows_take, rows_drop, pcs_take, pcs_drop, rows_append, pcs_append, ints_length, isInts_ints, toInts_ints, ei_i, ei_ok, mk_headD, ints_take, ints_drop, ints_append, ints_snoc, ints_snoc', List.take_length, Nat.zero_add, Nat.le_refl, er_a, er_b, er_k, er_n, er_s, er_v, ep_a, ep_b, ep_hk, ep_hn, ep_hs, ep_wk, ep_wn, ep_ws, Int.lt_irrefl]⟩
    have a1 := addR_len acc ⟨a, b, ⟨vk, vn, vs⟩⟩
    have c1 : acc.length < 4294967290 := by omega
    rw [k45_0x0, ← hi, List.drop_length, overG]
    have ht : ∀ m : List Row, List.take m.length (rows m) = rows m := fun m => by rw [← rows_length m, List.take_length]
    cases put <;> simp only [ld_br, ld_chk', ld_leaf, fd_br, fd_chk', fd_leaf, decide_true, decide_eq_true_eq, if_true, Int.toNat_natCast, Int.natCast_nonneg, Int.ofNat_lt, Int.ofNat_le, Bool.false_eq_true, if_false, bne_iff_ne, beq_iff_eq, ne_eq, not_true_eq_false, not_false_eq_true, Bool.not_eq_true', decide_eq_false_iff_not, reduceCtorEq, rows_length, pcs_length, er_ok, er_ok', ep_ok, ep_ok', dr_er, dp_ep, isRows_rows, isPcs_pcs, toRows_rows, toPcs_pcs, rows_take, rows_drop, pcs_take, pcs_drop, rows_append, pcs_append, ints_length, isInts_ints, toInts_ints, ei_i, ei_ok, mk_headD, ints_take, ints_drop, ints_append, ints_snoc, ints_snoc', List.take_length, Nat.zero_add, Nat.le_refl, er_a, er_b, er_k, er_n, er_s, er_v, ep_a, ep_b, ep_hk, ep_hn, ep_hs, ep_wk, ep_wn, ep_ws, c1, Nat.sub_zero, ht, decide_false, Bool.not_false, Bool.not_true, Bool.true_eq_false]
theorem s45_ok : CSpecOk E 45 s45 := by
  intro a h cs vals h' he hc
  unfold s45 at he
  split at he <;> simp only [Option.some.injEq, Prod.mk.injEq, reduceCtorEq] at he
  rename_i nl tt xs a b k m s
  obtain ⟨rfl, rfl, rfl⟩ := he
  simp only [allT, Bool.and_eq_true, and_true, decide_eq_true_eq] at hc
  have := f45 (toRows xs) nl tt a b ⟨k, m, s⟩ (by rw [toRows_length]; exact hc.2)
  rwa [← rows_of hc.1] at this
theorem right_len {l : List Row} (h : right l = true) : l.length ≤ 64 := by
  simp only [right, Bool.and_eq_true, decide_eq_true_eq] at h
  exact h.1
theorem f32 (l : List Row) (nl : Option Bool) (tt : Bool) (a b : Int) (v : Val) : call E 32 [.c (.sl 5 nl tt (rows l)), V.i a, V.i b, VV v] [] = some ([.c (.sl 5 none false (rows (turnR l a b v))), V.i (turnE l a b v)], []) := by
  obtain ⟨k, m, s⟩ := v
  refine call_of (E := E) (sh := sh) (ct := ctOf [(10, s10), (27, s27), (45, s45), (46, s46)]) (na := 4) (m := 0) (ctOf_cons s10_ok (ctOf_cons s27_ok (ctOf_cons s45_ok (ctOf_cons s46_ok ctOf_nil)))) rfl rfl rfl rfl rfl rfl ?_
  rw [t32]
  simp only [fd_br, fd_chk', fd_leaf, isRows_rows, if_true, toRows_rows, checkR_ne, Bool.not_eq_true', rows_length, decide_eq_true_eq]
  unfold turnR turnE
  cases h : right l
  · simp; rfl
  · cases h2 : isSpan a b
    · simp; rfl
    · have := right_len h
      simp [show l.length < 1000000 by omega]
theorem s32_ok : CSpecOk E 32 s32 := by
  intro a h cs vals h' he hc
  unfold s32 at he
  split at he <;> simp only [Option.some.injEq, Prod.mk.injEq, reduceCtorEq] at he
  rename_i nl tt xs a b k m s
  obtain ⟨rfl, rfl, rfl⟩ := he
  simp only [allT, Bool.and_eq_true, and_true, decide_eq_true_eq] at hc
  have := f32 (toRows xs) nl tt a b ⟨k, m, s⟩
  rwa [← rows_of hc] at this
def putR (l : List Row) (a b : Int) (v : Val) : List Row := if checkV v = 0 then turnR l a b v else []
def putE (l : List Row) (a b : Int) (v : Val) : Int := if checkV v = 0 then turnE l a b v else 2
theorem f15 (l : List Row) (nl : Option Bool) (tt : Bool) (a b : Int) (v : Val) : call E 15 [.c (.sl 5 nl tt (rows l)), V.i a, V.i b, VV v] [] = some ([.c (.sl 5 none false (rows (putR l a b v))), V.i (putE l a b v)], []) := by
  obtain ⟨k, m, s⟩ := v
  refine call_of (E := E) (sh := sh) (ct := ctOf [(28, s28), (32, s32)]) (na := 4) (m := 0) (ctOf_cons s28_ok (ctOf_cons s32_ok ctOf_nil)) rfl rfl rfl rfl rfl rfl ?_
  rw [t15]
  simp only [ld_br, ld_chk', ld_leaf, fd_br, fd_chk', fd_leaf, decide_true, decide_eq_true_eq, if_true, Int.toNat_natCast, Int.natCast_nonneg, Int.ofNat_lt, Int.ofNat_le, Bool.false_eq_true, if_false, bne_iff_ne, beq_iff_eq, ne_eq, not_true_eq_false, not_false_eq_true, Bool.not_eq_true', decide_eq_false_iff_not, reduceCtorEq, rows_length, pcs_length, er_ok, er_ok', ep_ok, ep_ok', dr_er, dp_ep, isRows_rows, isPcs_pcs, toRows_rows, toPcs_pcs, rows_take, rows_drop, pcs_take, pcs_drop, rows_append, pcs_append, ints_length, isInts_ints, toInts_ints, ei_i, ei_ok, mk_headD, ints_take, ints_drop, ints_append, ints_snoc, ints_snoc', List.take_length, Nat.zero_add, Nat.le_refl, er_a, er_b, er_k, er_n, er_s, er_v, ep_a, ep_b, ep_hk, ep_hn, ep_hs, ep_wk, ep_wn, ep_ws]
  unfold putR putE
  by_cases h : checkV ⟨k, m, s⟩ = 0 <;> simp [h]
  rfl
theorem f16 (l : List Row) (nl : Option Bool) (tt : Bool) (a b : Int) : call E 16 [.c (.sl 5 nl tt (rows l)), V.i a, V.i b] [] = some ([.c (.sl 5 none false (rows (turnR l a b Val.none))), V.i (turnE l a b Val.none)], []) := by
  refine call_of (E := E) (sh := sh) (ct := ctOf [(32, s32)]) (na := 3) (m := 0) (ctOf_cons s32_ok ctOf_nil) rfl rfl rfl rfl rfl rfl ?_
  rw [t16]
  simp only [ld_br, ld_chk', ld_leaf, fd_br, fd_chk', fd_leaf, decide_true, decide_eq_true_eq, if_true, Int.toNat_natCast, Int.natCast_nonneg, Int.ofNat_lt, Int.ofNat_le, Bool.false_eq_true, if_false, bne_iff_ne, beq_iff_eq, ne_eq, not_true_eq_false, not_false_eq_true, Bool.not_eq_true', decide_eq_false_iff_not, reduceCtorEq, rows_length, pcs_length, er_ok, er_ok', ep_ok, ep_ok', dr_er, dp_ep, isRows_rows, isPcs_pcs, toRows_rows, toPcs_pcs, rows_take, rows_drop, pcs_take, pcs_drop, rows_append, pcs_append, ints_length, isInts_ints, toInts_ints, ei_i, ei_ok, mk_headD, ints_take, ints_drop, ints_append, ints_snoc, ints_snoc', List.take_length, Nat.zero_add, Nat.le_refl, er_a, er_b, er_k, er_n, er_s, er_v, ep_a, ep_b, ep_hk, ep_hn, ep_hs, ep_wk, ep_wn, ep_ws]; rfl

/-! ## Clip -/
def clipG (a b : Int) : List Row → List Row → List Row
  | [], out => out
  | x :: r, out => clipG a b r (addR out ⟨max x.a a, min x.b b, x.v⟩)
def clipR (l : List Row) (a b : Int) : List Row := if right l = true then clipG a b l [] else []
theorem f17 (l : List Row) (nl : Option Bool) (tt : Bool) (a b : Int) : call E 17 [.c (.sl 5 nl tt (rows l)), V.i a, V.i b] [] = some ([.c (.sl 5 none false (rows (clipR l a b)))], []) := by
  have hct : (ctOf [(10, s10), (33, s33)]).ok E := ctOf_cons s10_ok (ctOf_cons s33_ok ctOf_nil)
  refine call_of (E := E) (sh := sh) (ct := ctOf [(10, s10), (33, s33)]) (na := 3) (m := 0) hct rfl rfl rfl rfl rfl rfl ?_
  rw [t17]
  simp only [fd_br, fd_chk', fd_leaf, isRows_rows, if_true, toRows_rows, checkR_ne, Bool.not_eq_true', rows_length]
  unfold clipR
  cases hr : right l
  · simp; rfl
  have hl := right_len hr
  simp only [Bool.true_eq_false, if_false, if_true]
  refine fd_post hct (by kernel_rfl) rfl (list_post hct (b := b17_0) l.length (fun k (s : List Row) => s17_0 nl tt (rows l) a b s.length l.length k (rows s)) (fun k s => clipG a b (l.drop k) s = clipG a b l [] ∧ s.length ≤ k) _ ?_ ?_ 0 (Nat.zero_le _) [] ⟨rfl, by simp⟩)
  · rintro k acc hk ⟨hi, hlen⟩
    rw [List.drop_eq_getElem_cons hk, clipG] at hi
    have a1 := addR_len acc ⟨max l[k].a a, min l[k].b b, l[k].v⟩
    have c1 : acc.length < 4294967290 := by omega
    rw [t17_0]
    simp only [ld_br, ld_chk', ld_leaf, fd_br, fd_chk', fd_leaf, decide_true, decide_eq_true_eq, if_true, Int.toNat_natCast, Int.natCast_nonneg, Int.ofNat_lt, Int.ofNat_le, Bool.false_eq_true, if_false, bne_iff_ne, beq_iff_eq, ne_eq, not_true_eq_false, not_false_eq_true, Bool.not_eq_true', decide_eq_false_iff_not, reduceCtorEq, rows_length, pcs_length, er_ok, er_ok', ep_ok, ep_ok', dr_er, dp_ep, isRows_rows, isPcs_pcs, toRows_rows, toPcs_pcs, rows_take, rows_drop, pcs_take, pcs_drop, rows_append, pcs_append, ints_length, isInts_ints, toInts_ints, ei_i, ei_ok, mk_headD, ints_take, ints_drop, ints_append, ints_snoc, ints_snoc', List.take_length, Nat.zero_add, Nat.le_refl, er_a, er_b, er_k, er_n, er_s, er_v, ep_a, ep_b, ep_hk, ep_hn, ep_hs, ep_wk, ep_wn, ep_ws, hk, rows_getD hk, wrap_succ (show k < 9223372036854775807 by omega), maxI, minI, val_eta, c1]
    exact .inl ⟨addR acc ⟨max l[k].a a, min l[k].b b, l[k].v⟩, ⟨hi, Nat.le_trans a1 (by omega)⟩, rfl⟩
  · rintro acc ⟨hi, hlen⟩
    rw [t17_0]
    refine ⟨x17_0x0 nl tt (rows l) a b acc.length l.length l.length (rows acc), by simp, ?_, by simp only [ld_br, ld_chk', ld_leaf, fd_br, fd_chk', fd_leaf, decide_true, decide_eq_true_eq, if_true, Int.toNat_natCast, Int.natCast_nonneg, Int.ofNat_lt, Int.ofNat_le, Bool.false_eq_true, if_false, bne_iff_ne, beq_iff_eq, ne_eq, not_true_eq_false, not_false_eq_true, Bool.not_eq_true', decide_eq_false_iff_not, reduceCtorEq, rows_length, pcs_length, er_ok, er_ok', ep_ok, ep_ok', dr_er, dp_ep, isRows_rows, isPcs_pcs, toRows_rows, toPcs_pcs, rows_take, rows_drop, pcs_take, pcs_drop, rows_append, pcs_append, ints_length, isInts_ints, toInts_ints, ei_i, ei_ok, mk_headD, ints_take, ints_drop, ints_append, ints_snoc, ints_snoc', List.take_length, Nat.zero_add, Nat.le_refl, er_a, er_b, er_k, er_n, er_s, er_v, ep_a, ep_b, ep_hk, ep_hn, ep_hs, ep_wk, ep_wn, ep_ws, Int.lt_irrefl]⟩
    rw [k17_0x0, ← hi, List.drop_length, clipG]
    have : acc.length = (rows acc).length := by simp
    simp only [fd_leaf, this, List.take_length]

/-! ## the reference -/
theorem bndR_len : ∀ (l : List Row) (more : List Int), (bndR more l).length ≤ more.length + 2 * l.length
  | [], more => by simp [bndR]
  | x :: r, more => by
    have h1 := insG_len more x.a false
    have h2 := insG_len (insG more x.a false) x.b false
    have h3 := bndR_len r (insG (insG more x.a false) x.b false)
    simp only [bndR, List.length_cons]
    omega
theorem f49 (m : List Int) (l : List Row) (nl : Option Bool) (tt : Bool) (nl2 : Option Bool) (t2 : Bool) (hm : m.length < 1000000) (hl : l.length < 1000000) : call E 49 [.c (.sl 1 nl tt (ints m)), .c (.sl 5 nl2 t2 (rows l))] [] = some ([.c (.sl 1 none false (ints (bndR m l)))], []) := by
  have hct : (ctOf [(57, s57)]).ok E := ctOf_cons s57_ok ctOf_nil
  refine call_of (E := E) (sh := sh) (ct := ctOf [(57, s57)]) (na := 2) (m := 0) hct rfl rfl rfl rfl rfl rfl ?_
  rw [t49]
  refine fd_post hct (by kernel_rfl) rfl (list_post hct (b := b49_0) l.length (fun k (s : Option Bool × Bool × List Int) => s49_0 s.1 s.2.1 (ints s.2.2) nl2 t2 (rows l) k) (fun k s => bndR s.2.2 (l.drop k) = bndR m l ∧ s.2.2.length ≤ m.length + 2 * k) _ ?_ ?_ 0 (Nat.zero_le _) (nl, tt, m) ⟨rfl, by simp⟩)
  · rintro k ⟨n1, b1, acc⟩ hk ⟨hi, hlen⟩
    dsimp only at hi hlen
    rw [List.drop_eq_getElem_cons hk, bndR] at hi
    have a1 := insG_len acc l[k].a false
    have a2 := insG_len (insG acc l[k].a false) l[k].b false
    have c1 : acc.length < 4294967280 := by omega
    have c2 : (insG acc l[k].a false).length < 4294967280 := by omega
    have d3 : (insG (insG acc l[k].a false) l[k].b false).length ≤ m.length + 2 * (k + 1) := by omega
    rw [t49_0]
    simp only [ld_br, ld_chk', ld_leaf, fd_br, fd_chk', fd_leaf, decide_true, decide_eq_true_eq, if_true, Int.toNat_natCast, Int.natCast_nonneg, Int.ofNat_lt, Int.ofNat_le, Bool.false_eq_true, if_false, bne_iff_ne, beq_iff_eq, ne_eq, not_true_eq_false, not_false_eq_true, Bool.not_eq_true', decide_eq_false_iff_not, reduceCtorEq, rows_length, pcs_length, er_ok, er_ok', ep_ok, ep_ok', dr_er, dp_ep, isRows_rows, isPcs_pcs, toRows_rows, toPcs_pcs, rows_take, rows_drop, pcs_take, pcs_drop, rows_append, pcs_append, ints_length, isInts_ints, toInts_ints, ei_i, ei_ok, mk_headD, ints_take, ints_drop, ints_append, ints_snoc, ints_snoc', List.take_length, Nat.zero_add, Nat.le_refl, er_a, er_b, er_k, er_n, er_s, er_v, ep_a, ep_b, ep_hk, ep_hn, ep_hs, ep_wk, ep_wn, ep_ws, hk, rows_getD hk, wrap_succ (show k < 9223372036854775807 by omega), c1, c2]
    exact .inl ⟨(none, false, insG (insG acc l[k].a false) l[k].b false), ⟨hi, d3⟩, rfl⟩
  · rintro ⟨n1, b1, acc⟩ ⟨hi, hlen⟩
    dsimp only at hi hlen
    rw [t49_0]
    refine ⟨x49_0x0 n1 b1 (ints acc) nl2 t2 (rows l) l.length, by simp, ?_, by simp only [ld_br, ld_chk', ld_leaf, fd_br, fd_chk', fd_leaf, decide_true, decide_eq_true_eq, if_true, Int.toNat_natCast, Int.natCast_nonneg, Int.ofNat_lt, Int.ofNat_le, Bool.false_eq_true, if_false, bne_iff_ne, beq_iff_eq, ne_eq, not_true_eq_false, not_false_eq_true, Bool.not_eq_true', decide_eq_false_iff_not, reduceCtorEq, rows_length, pcs_length, er_ok, er_ok', ep_ok, ep_ok', dr_er, dp_ep, isRows_rows, isPcs_pcs, toRows_rows, toPcs_pcs, rows_take, rows_drop, pcs_take, pcs_drop, rows_append, pcs_append, ints_length, isInts_ints, toInts_ints, ei_i, ei_ok, mk_headD, ints_take, ints_drop, ints_append, ints_snoc, ints_snoc', List.take_length, Nat.zero_add, Nat.le_refl, er_a, er_b, er_k, er_n, er_s, er_v, ep_a, ep_b, ep_hk, ep_hn, ep_hs, ep_wk, ep_wn, ep_ws, Nat.lt_irrefl]⟩
    rw [k49_0x0, ← hi, List.drop_length, bndR, fd_leaf]
theorem s49_ok : CSpecOk E 49 s49 := by
  intro a h cs vals h' he hc
  unfold s49 at he
  split at he <;> simp only [Option.some.injEq, Prod.mk.injEq, reduceCtorEq] at he
  rename_i nl tt ys nl2 t2 xs
  obtain ⟨rfl, rfl, rfl⟩ := he
  simp only [allT, Bool.and_eq_true, and_true, decide_eq_true_eq] at hc
  obtain ⟨h1, h2, h3, h4⟩ := hc
  have := f49 (toInts ys) (toRows xs) nl tt nl2 t2 (by rw [toInts_length]; exact h3) (by rw [toRows_length]; exact h4)
  rwa [← ints_of h1, ← rows_of h2] at this

theorem addS_len (l : List Row) (x : Row) : (addS l x).length ≤ l.length + 1 := by
  unfold addS
  repeat' split
  all_goals simp
  all_goals rename_i h; simp at h; simp [h]
theorem addS_at {l : List Row} {x : Row} (h2 : ¬ x.v.k = 0) {k : Nat} (hk : l.length = k + 1) : addS l x = if (l[k]'(by omega)).b = x.a ∧ (l[k]'(by omega)).v = x.v then l.set k { l[k]'(by omega) with b := x.b } else l ++ [x] := by
  unfold addS
  rw [if_neg h2]
  have : l.getLast? = some (l[k]'(by omega)) := by
    rw [List.getLast?_eq_getElem?, List.getElem?_eq_getElem (by omega)]
    simp only [hk, Nat.add_sub_cancel]
  rw [this]
  simp only [show l.length - 1 = k by omega]
theorem f58 (l : List Row) (nl : Option Bool) (tt : Bool) (a b : Int) (v : Val) (hl : l.length < 4294967280) : call E 58 [.c (.sl 5 nl tt (rows l)), V.i a, V.i b, VV v] [] = some ([.c (.sl 5 none false (rows (addS l ⟨a, b, v⟩)))], []) := by
  obtain ⟨k, m, s⟩ := v
  refine call_of (E := E) (sh := sh) (ct := ctOf []) (na := 4) (m := 0) ctOf_nil rfl rfl rfl rfl rfl rfl ?_
  rw [t58]
  by_cases h2 : k = 0
  · have : addS l ⟨a, b, ⟨k, m, s⟩⟩ = l := by simp [addS, h2]
    rw [this]; simp only [ld_br, ld_chk', ld_leaf, fd_br, fd_chk', fd_leaf, decide_true, decide_eq_true_eq, if_true, Int.toNat_natCast, Int.natCast_nonneg, Int.ofNat_lt, Int.ofNat_le, Bool.false_eq_true, if_false, bne_iff_ne, beq_iff_eq, ne_eq, not_true_eq_false, not_false_eq_true, Bool.not_eq_true', decide_eq_false_iff_not, reduceCtorEq, rows_length, pcs_length, er_ok, er_ok', ep_ok, ep_ok', dr_er, dp_ep, isRows_rows, isPcs_pcs, toRows_rows, toPcs_pcs, rows_take, rows_drop, pcs_take, pcs_drop, rows_append, pcs_append, ints_length, isInts_ints, toInts_ints, ei_i, ei_ok, mk_headD, ints_take, ints_drop, ints_append, ints_snoc, ints_snoc', List.take_length, Nat.zero_add, Nat.le_refl, er_a, er_b, er_k, er_n, er_s, er_v, ep_a, ep_b, ep_hk, ep_hn, ep_hs, ep_wk, ep_wn, ep_ws, h2]
  cases hn : l.length with
  | zero =>
    obtain rfl : l = [] := List.eq_nil_of_length_eq_zero hn
    have : addS [] ⟨a, b, ⟨k, m, s⟩⟩ = [⟨a, b, ⟨k, m, s⟩⟩] := by simp [addS, h2]
    rw [this]
    simp only [ld_br, ld_chk', ld_leaf, fd_br, fd_chk', fd_leaf, decide_true, decide_eq_true_eq, if_true, Int.toNat_natCast, Int.natCast_nonneg, Int.ofNat_lt, Int.ofNat_le, Bool.false_eq_true, if_false, bne_iff_ne, beq_iff_eq, ne_eq, not_true_eq_false, not_false_eq_true, Bool.not_eq_true', decide_eq_false_iff_not, reduceCtorEq, rows_length, pcs_length, er_ok, er_ok', ep_ok, ep_ok', dr_er, dp_ep, isRows_rows, isPcs_pcs, toRows_rows, toPcs_pcs, rows_take, rows_drop, pcs_take, pcs_drop, rows_append, pcs_append, ints_length, isInts_ints, toInts_ints, ei_i, ei_ok, mk_headD, ints_take, ints_drop, ints_append, ints_snoc, ints_snoc', List.take_length, Nat.zero_add, Nat.le_refl, er_a, er_b, er_k, er_n, er_s, er_v, ep_a, ep_b, ep_hk, ep_hn, ep_hs, ep_wk, ep_wn, ep_ws, h2, List.length_nil, rows_nil]
    rfl
  | succ n =>
    have hn' : n < l.length := by omega
    have hw : IntKind.wrap .i64 ((l.length : Int) - 1) = (n : Int) := by rw [wrap_same (by omega) (by omega)]; omega
    have hv := val_eqb l[n].v ⟨k, m, s⟩
    have ht : List.take 0 ([] : List (List C)) = [] := rfl
    have hr : (rows l).getD n [] = er l[n] := rows_getD hn'
    have e1 : l.length < 4294967296 := by omega
    have e2 : l.length + 1 < 4294967296 := by omega
    have hq : List.take l.length (rows l) = rows l := by rw [← rows_length l, List.take_length]
    rw [addS_at h2 hn]
    simp only at hv
    by_cases h3 : l[n].b = a
    · by_cases h4 : l[n].v = ⟨k, m, s⟩
      · simp only [ld_br, ld_chk', ld_leaf, fd_br, fd_chk', fd_leaf, decide_true, decide_eq_true_eq, if_true, Int.toNat_natCast, Int.natCast_nonneg, Int.ofNat_lt, Int.ofNat_le, Bool.false_eq_true, if_false, bne_iff_ne, beq_iff_eq, ne_eq, not_true_eq_false, not_false_eq_true, Bool.not_eq_true', decide_eq_false_iff_not, reduceCtorEq, rows_length, pcs_length, er_ok, er_ok', ep_ok, ep_ok', dr_er, dp_ep, isRows_rows, isPcs_pcs, toRows_rows, toPcs_pcs, rows_take, rows_drop, pcs_take, pcs_drop, rows_append, pcs_append, ints_length, isInts_ints, toInts_ints, ei_i, ei_ok, mk_headD, ints_take, ints_drop, ints_append, ints_snoc, ints_snoc', List.take_length, Nat.zero_add, Nat.le_refl, er_a, er_b, er_k, er_n, er_s, er_v, ep_a, ep_b, ep_hk, ep_hn, ep_hs, ep_wk, ep_wn, ep_ws, h2, hw, hn', hr, er_t1, er_t3, ok1, ok3, List.headD_cons, List.tail_cons, ci, cst, Nat.reduceAdd, Nat.reduceLeDiff, hv, h3, h4, and_self, er_len, er_set, rows_set, List.length_set, BEq.rfl, Bool.and_self, ht, List.nil_append, e1, hq]
        have : l.length = (l.set n { a := l[n].a, b := b, v := { k := k, n := m, s := s } }).length := by simp
        conv => lhs; rw [this, List.take_length]
      · simp only [ld_br, ld_chk', ld_leaf, fd_br, fd_chk', fd_leaf, decide_true, decide_eq_true_eq, if_true, Int.toNat_natCast, Int.natCast_nonneg, Int.ofNat_lt, Int.ofNat_le, Bool.false_eq_true, if_false, bne_iff_ne, beq_iff_eq, ne_eq, not_true_eq_false, not_false_eq_true, Bool.not_eq_true', decide_eq_false_iff_not, reduceCtorEq, rows_length, pcs_length, er_ok, er_ok', ep_ok, ep_ok', dr_er, dp_ep, isRows_rows, isPcs_pcs, toRows_rows, toPcs_pcs, rows_take, rows_drop, pcs_take, pcs_drop, rows_append, pcs_append, ints_length, isInts_ints, toInts_ints, ei_i, ei_ok, mk_headD, ints_take, ints_drop, ints_append, ints_snoc, ints_snoc', List.take_length, Nat.zero_add, Nat.le_refl, er_a, er_b, er_k, er_n, er_s, er_v, ep_a, ep_b, ep_hk, ep_hn, ep_hs, ep_wk, ep_wn, ep_ws, h2, hw, hn', hr, er_t1, er_t3, ok1, ok3, List.headD_cons, List.tail_cons, ci, cst, Nat.reduceAdd, Nat.reduceLeDiff, hv, h3, h4, and_false, er_len, ht, List.nil_append, e1, e2, hq, rows_snoc]
        have : l.length + 1 = (l ++ [(⟨a, b, ⟨k, m, s⟩⟩ : Row)]).length := by simp
        conv => lhs; rw [this, List.take_length]
    · simp only [ld_br, ld_chk', ld_leaf, fd_br, fd_chk', fd_leaf, decide_true, decide_eq_true_eq, if_true, Int.toNat_natCast, Int.natCast_nonneg, Int.ofNat_lt, Int.ofNat_le, Bool.false_eq_true, if_false, bne_iff_ne, beq_iff_eq, ne_eq, not_true_eq_false, not_false_eq_true, Bool.not_eq_true', decide_eq_false_iff_not, reduceCtorEq, rows_length, pcs_length, er_ok, er_ok', ep_ok, ep_ok', dr_er, dp_ep, isRows_rows, isPcs_pcs, toRows_rows, toPcs_pcs, rows_take, rows_drop, pcs_take, pcs_drop, rows_append, pcs_append, ints_length, isInts_ints, toInts_ints, ei_i, ei_ok, mk_headD, ints_take, ints_drop, ints_append, ints_snoc, ints_snoc', List.take_length, Nat.zero_add, Nat.le_refl, er_a, er_b, er_k, er_n, er_s, er_v, ep_a, ep_b, ep_hk, ep_hn, ep_hs, ep_wk, ep_wn, ep_ws, h2, hw, hn', hr, er_t1, er_t3, ok1, ok3, List.headD_cons, List.tail_cons, ci, cst, Nat.reduceAdd, Nat.reduceLeDiff, hv, h3, false_and, er_len, ht, List.nil_append, e1, e2, hq, rows_snoc]
      have : l.length + 1 = (l ++ [(⟨a, b, ⟨k, m, s⟩⟩ : Row)]).length := by simp
      conv => lhs; rw [this, List.take_length]
theorem s58_ok : CSpecOk E 58 s58 := by
  intro a h cs vals h' he hc
  unfold s58 at he
  split at he <;> simp only [Option.some.injEq, Prod.mk.injEq, reduceCtorEq] at he
  rename_i nl tt xs a b k m s
  obtain ⟨rfl, rfl, rfl⟩ := he
  simp only [allT, Bool.and_eq_true, and_true, decide_eq_true_eq] at hc
  have := f58 (toRows xs) nl tt a b ⟨k, m, s⟩ (by rw [toRows_length]; exact hc.2)
  rwa [← rows_of hc.1] at this
end Go.Proofs.YtedniogmjhhhmaaDoor
