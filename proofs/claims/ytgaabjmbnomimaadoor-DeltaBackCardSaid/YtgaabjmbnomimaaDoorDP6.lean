/-
  Chapter 11 (delta): Replay; Chapter 11 (delta), trees, written by a program: what is small; Chapter 11 (delta): what is small; lives; Chapter 11 (delta), trees, written by a program: DeltaBack; Chapter 11 (delta): small trees have few entries; changes as cells; conflicts; Chapter 11 (delta): the laws, but for their arguments' reading: DeltaBack; Chapter 11 (delta): DeltaBack at arguments that read as trees.
-/
import Derived.Test.YtgaabjmbnomimaaDoorAR
set_option linter.all false
namespace Go.Proofs.YtgaabjmbnomimaaDoor
open Go Go.Ev
theorem f139 (p : List UInt8) : call E 139 [.c (.str p)] [] = some ([V.b (isPath p)], []) := by
  refine call_of (E := E) (sh := sh) (ct := ctOf []) (na := 1) (m := 0) ctOf_nil rfl rfl rfl rfl rfl rfl ?_
  rw [t139]
  simp only [ld_br, ld_chk', ld_leaf, fd_br, fd_chk', fd_leaf, decide_true, decide_eq_true_eq, if_true, Int.toNat_natCast, Int.natCast_nonneg, Int.ofNat_lt, Int.ofNat_le, Bool.false_eq_true, if_false, bne_iff_ne, beq_iff_eq, ne_eq, not_true_eq_false, not_false_eq_true, Bool.not_eq_true', decide_eq_false_iff_not, reduceCtorEq, rows_length, pcs_length, er_ok, er_ok', ep_ok, ep_ok', dr_er, dp_ep, isRows_rows, isPcs_pcs, toRows_rows, toPcs_pcs, rows_take, rows_drop, pcs_take, pcs_drop, rows_append, pcs_append, ints_length, isInts_ints, toInts_ints, ei_i, ei_ok, mk_headD, ints_take, ints_drop, ints_append, ints_snoc, ints_snoc', List.take_length, Nat.zero_add, Nat.le_refl, er_a, er_b, er_k, er_n, er_s, er_v, ep_a, ep_b, ep_hk, ep_hn, ep_hs, ep_wk, ep_wn, ep_ws]
  unfold isPath
  by_cases h : p = []
  · subst h; rfl
  · have : ((p.length : Int) ≤ 24) ↔ (p.length ≤ 24) := by omega
    simp [h, this]
theorem s139_ok : CSpecOk E 139 s139 := by
  intro a h cs vals h' he hc
  unfold s139 at he
  split at he <;> simp only [Option.some.injEq, Prod.mk.injEq, reduceCtorEq] at he
  obtain ⟨rfl, rfl, rfl⟩ := he
  exact f139 _
theorem mayF_drop {l : List Cg} {k : Nat} (h : k < l.length) (last : List UInt8) : mayF last (l.drop k) = ((isPath l[k].p && Op.bytesLess last l[k].p && right l[k].a && right l[k].b && !decide (l[k].a = l[k].b)) && mayF l[k].p (l.drop (k + 1))) := by
  rw [List.drop_eq_getElem_cons h, mayF]
theorem bl_not (a b : List UInt8) : (Op.bytesLess a b || a == b) = !Op.bytesLess b a := by
  cases h : Op.bytesLess a b with
  | true => rw [bl_asymm h]; rfl
  | false =>
    cases k : Op.bytesLess b a with
    | true => rw [beq_eq_false_iff_ne.2 (fun e => bl_ne k e.symm)]; rfl
    | false => rw [bl_total _ _ h k]; simp
theorem f99 (nl : Option Bool) (tt : Bool) (l : List Cg) (hl : l.length ≤ 9223372036854775807) : call E 99 [.c (.sl 3 nl tt (cgs l))] [] = some ([V.b (mayF [] l)], []) := by
  have hct : (ctOf [(64, s64), (98, s98), (139, s139)]).ok E := ctOf_cons s64_ok (ctOf_cons s98_ok (ctOf_cons s139_ok ctOf_nil))
  refine call_of (E := E) (sh := sh) (ct := ctOf [(64, s64), (98, s98), (139, s139)]) (na := 1) (m := 0) hct rfl rfl rfl rfl rfl rfl ?_
  rw [t99, cgs_length]
  refine fd_post hct (by kernel_rfl) rfl (list_post (p := p99) hct (b := b99_0) l.length (fun k (last : List UInt8) => s99_0 nl tt (cgs l) last l.length k) (fun k last => mayF last (l.drop k) = mayF [] l) _ ?_ ?_ 0 (Nat.zero_le _) [] rfl)
  · intro k last hk hi
    rw [mayF_drop hk] at hi
    have bad : mayF [] l = false → ∃ x : Ex × Fr × Hp, x.1 ≠ .nrm ∧ p99.fd (p99.fkx 0 x) = some (.out [V.b (mayF [] l)] []) ∧ some (R.x (x99_0x0 l[k].p l[k].n1 l[k].t1 (rows l[k].a) l[k].n2 l[k].t2 (rows l[k].b))) = some (R.x x) := fun h =>
      ⟨x99_0x0 l[k].p l[k].n1 l[k].t1 (rows l[k].a) l[k].n2 l[k].t2 (rows l[k].b), by simp, by rw [k99_0x0, fd_leaf, h], rfl⟩
    have go : p99.ld b99_0 (p99.lts b99_0 (s99_0 nl tt (cgs l) last l.length k)) = if (isPath l[k].p && Op.bytesLess last l[k].p && right l[k].a && right l[k].b && !decide (l[k].a = l[k].b)) = true then some (R.s (s99_0 nl tt (cgs l) l[k].p l.length ((k + 1 : Nat) : Int))) else some (R.x (x99_0x0 l[k].p l[k].n1 l[k].t1 (rows l[k].a) l[k].n2 l[k].t2 (rows l[k].b))) := by
      rw [t99_0]
      simp only [ld_br, ld_chk', ld_leaf, fd_br, fd_chk', fd_leaf, decide_true, decide_eq_true_eq, if_true, Int.toNat_natCast, Int.natCast_nonneg, Int.ofNat_lt, Int.ofNat_le, Bool.false_eq_true, if_false, bne_iff_ne, beq_iff_eq, ne_eq, not_true_eq_false, not_false_eq_true, Bool.not_eq_true', decide_eq_false_iff_not, reduceCtorEq, rows_length, pcs_length, er_ok, er_ok', ep_ok, ep_ok', dr_er, dp_ep, isRows_rows, isPcs_pcs, toRows_rows, toPcs_pcs, rows_take, rows_drop, pcs_take, pcs_drop, rows_append, pcs_append, ints_length, isInts_ints, toInts_ints, ei_i, ei_ok, mk_headD, ints_take, ints_drop, ints_append, ints_snoc, ints_snoc', List.take_length, Nat.zero_add, Nat.le_refl, er_a, er_b, er_k, er_n, er_s, er_v, ep_a, ep_b, ep_hk, ep_hn, ep_hs, ep_wk, ep_wn, ep_ws, cgs_length, hk, cgs_getD hk, Cg.ok, Cg.e_p, Cg.e_a, Cg.e_b, Cg.e_n1, Cg.e_n2, Cg.e_t1, Cg.e_t2, bl_not, checkR_ne, wrap_succ (show k < 9223372036854775807 by omega)]
      cases h1 : isPath l[k].p with
      | false => simp
      | true =>
        cases h2 : Op.bytesLess last l[k].p with
        | false => simp
        | true =>
          cases h3 : right l[k].a with
          | false => simp
          | true =>
            have := right_len63 h3
            cases h4 : right l[k].b with
            | false => simp
            | true =>
              by_cases h5 : l[k].a = l[k].b
              · rw [h5] at this; simp [h5, this]
              · simp [h5, this]
    cases hc : (isPath l[k].p && Op.bytesLess last l[k].p && right l[k].a && right l[k].b && !decide (l[k].a = l[k].b)) with
    | true =>
      rw [hc, if_pos rfl] at go
      rw [hc, Bool.true_and] at hi
      exact .inl ⟨l[k].p, hi, go⟩
    | false =>
      rw [hc, if_neg (by simp)] at go
      rw [hc, Bool.false_and] at hi
      rw [go]
      exact .inr (bad hi.symm)
  · intro last hi
    rw [List.drop_length, mayF] at hi
    refine ⟨x99_0x1 nl tt (cgs l) last l.length l.length, by simp, by rw [k99_0x1, fd_leaf, ← hi], ?_⟩
    rw [t99_0]
    simp only [ld_br, ld_chk', ld_leaf, fd_br, fd_chk', fd_leaf, decide_true, decide_eq_true_eq, if_true, Int.toNat_natCast, Int.natCast_nonneg, Int.ofNat_lt, Int.ofNat_le, Bool.false_eq_true, if_false, bne_iff_ne, beq_iff_eq, ne_eq, not_true_eq_false, not_false_eq_true, Bool.not_eq_true', decide_eq_false_iff_not, reduceCtorEq, rows_length, pcs_length, er_ok, er_ok', ep_ok, ep_ok', dr_er, dp_ep, isRows_rows, isPcs_pcs, toRows_rows, toPcs_pcs, rows_take, rows_drop, pcs_take, pcs_drop, rows_append, pcs_append, ints_length, isInts_ints, toInts_ints, ei_i, ei_ok, mk_headD, ints_take, ints_drop, ints_append, ints_snoc, ints_snoc', List.take_length, Nat.zero_add, Nat.le_refl, er_a, er_b, er_k, er_n, er_s, er_v, ep_a, ep_b, ep_hk, ep_hn, ep_hs, ep_wk, ep_wn, ep_ws, Int.lt_irrefl]
theorem s99_ok : CSpecOk E 99 s99 := by
  intro a h cs vals h' he hc
  unfold s99 at he
  split at he <;> simp only [Option.some.injEq, Prod.mk.injEq, reduceCtorEq] at he
  rename_i nl tt xs
  obtain ⟨rfl, rfl, rfl⟩ := he
  simp only [allT, Bool.and_true, Bool.and_eq_true, decide_eq_true_eq] at hc
  obtain ⟨h1, h2⟩ := hc
  obtain ⟨l, rfl⟩ := cgs_ex h1
  rw [cgs_length] at h2
  simp only [toCgs_cgs]
  exact f99 nl tt l h2
theorem f100 (p : List UInt8) (n1 : Option Bool) (t1 : Bool) (a : List Row) (n2 : Option Bool) (t2 : Bool) (vs : List (List C)) (s : List UInt8) (rn : Option Bool) (rt : Bool) (rs : List Row) (kn : Option Bool) (kt : Bool) (ks : List Nd) :
    call E 100 [.agg [.c (.str p), .c (.sl 5 n1 t1 (rows a)), .c (.sl 5 n2 t2 vs)], .ptr 0 0 0 0] [.box [.c (.str s), .c (.sl 5 rn rt (rows rs)), .c (.sl 3 kn kt (encL ks))]] = some ([V.b (!decide (getR (.node s rs ks) p = a))], [.box [.c (.str s), .c (.sl 5 rn rt (rows rs)), .c (.sl 3 kn kt (encL ks))]]) := by
  refine call_of (E := E) (sh := sh) (ct := ctOf [(27, s27), (98, s98)]) (na := 2) (m := 1) (ctOf_cons s27_ok (ctOf_cons s98_ok ctOf_nil)) rfl rfl rfl rfl rfl rfl ?_
  rw [t100]
  have hl : (getR (.node s rs ks) p).length ≤ 9223372036854775807 := by rw [getR_P]; exact right_len63 (look_right (gd_entP _) _)
  simp only [nd_ok, nd_lab, nd_rows, nd_kids, encL_length, isL_enc, decL_enc, wrap_hd, hd_pos, ld_br, ld_chk', ld_leaf, fd_br, fd_chk', fd_leaf, decide_true, decide_eq_true_eq, if_true, Int.toNat_natCast, Int.natCast_nonneg, Int.ofNat_lt, Int.ofNat_le, Bool.false_eq_true, if_false, bne_iff_ne, beq_iff_eq, ne_eq, not_true_eq_false, not_false_eq_true, Bool.not_eq_true', decide_eq_false_iff_not, reduceCtorEq, rows_length, pcs_length, er_ok, er_ok', ep_ok, ep_ok', dr_er, dp_ep, isRows_rows, isPcs_pcs, toRows_rows, toPcs_pcs, rows_take, rows_drop, pcs_take, pcs_drop, rows_append, pcs_append, ints_length, isInts_ints, toInts_ints, ei_i, ei_ok, mk_headD, ints_take, ints_drop, ints_append, ints_snoc, ints_snoc', List.take_length, Nat.zero_add, Nat.le_refl, er_a, er_b, er_k, er_n, er_s, er_v, ep_a, ep_b, ep_hk, ep_hn, ep_hs, ep_wk, ep_wn, ep_ws, hl]
theorem s100_ok : CSpecOk E 100 s100 := by
  intro a h cs vals h' he hc
  unfold s100 at he
  split at he <;> simp only [Option.some.injEq, Prod.mk.injEq, reduceCtorEq] at he
  rename_i p n1 t1 us n2 t2 vs s rn rt xs kn kt ys
  obtain ⟨rfl, rfl, rfl⟩ := he
  simp only [allT, Bool.and_true, Bool.and_eq_true, decide_eq_true_eq] at hc
  obtain ⟨h1, h2, h3⟩ := hc
  obtain ⟨a, rfl⟩ := rows_ex h1
  obtain ⟨rs, rfl⟩ := rows_ex h2
  obtain ⟨ks, rfl⟩ := isL_ex h3
  simp only [toRows_rows, decL_enc]
  exact f100 p n1 t1 a n2 t2 vs s rn rt rs kn kt ks
theorem idxC_drop (f : Cg → Bool) {l : List Cg} {k : Nat} (j : Nat) (hk : k < l.length) : idxC f (l.drop k) j = if f l[k] = true then (j : Int) else idxC f (l.drop (k + 1)) (j + 1) := by
  rw [List.drop_eq_getElem_cons hk, idxC]
theorem f140 (nl : Option Bool) (tt : Bool) (l : List Cg) (hl : l.length ≤ 9223372036854775807) (s : List UInt8) (rn : Option Bool) (rt : Bool) (rs : List Row) (kn : Option Bool) (kt : Bool) (ks : List Nd) :
    call E 140 [.c (.sl 3 nl tt (cgs l)), .fn 100 [.ptr 0 0 0 0]] [.box [.c (.str s), .c (.sl 5 rn rt (rows rs)), .c (.sl 3 kn kt (encL ks))]] = some ([V.i (idxC (otherB (.node s rs ks)) l 0)], [.box [.c (.str s), .c (.sl 5 rn rt (rows rs)), .c (.sl 3 kn kt (encL ks))]]) := by
  have hct : (ctOf [(100, s100)]).ok E := ctOf_cons s100_ok ctOf_nil
  refine call_of (E := E) (sh := sh) (ct := ctOf [(100, s100)]) (na := 2) (m := 1) hct rfl rfl rfl rfl rfl rfl ?_
  rw [t140, cgs_length]
  refine fd_post hct (by kernel_rfl) rfl (list_post (p := p140) hct (b := b140_0) l.length (fun k (_ : Unit) => s140_0 nl tt (cgs l) s rn rt (rows rs) kn kt (encL ks) l.length k) (fun k _ => idxC (otherB (.node s rs ks)) (l.drop k) k = idxC (otherB (.node s rs ks)) l 0) _ ?_ ?_ 0 (Nat.zero_le _) () rfl)
  · intro k _ hk hi
    rw [idxC_drop _ _ hk] at hi
    have go : p140.ld b140_0 (p140.lts b140_0 (s140_0 nl tt (cgs l) s rn rt (rows rs) kn kt (encL ks) l.length k)) = if otherB (.node s rs ks) l[k] = true then some (R.x (x140_0x0 s rn rt (rows rs) kn kt (encL ks) k)) else some (R.s (s140_0 nl tt (cgs l) s rn rt (rows rs) kn kt (encL ks) l.length ((k + 1 : Nat) : Int))) := by
      rw [t140_0]
      simp only [nd_ok, nd_lab, nd_rows, nd_kids, encL_length, isL_enc, decL_enc, wrap_hd, hd_pos, ld_br, ld_chk', ld_leaf, fd_br, fd_chk', fd_leaf, decide_true, decide_eq_true_eq, if_true, Int.toNat_natCast, Int.natCast_nonneg, Int.ofNat_lt, Int.ofNat_le, Bool.false_eq_true, if_false, bne_iff_ne, beq_iff_eq, ne_eq, not_true_eq_false, not_false_eq_true, Bool.not_eq_true', decide_eq_false_iff_not, reduceCtorEq, rows_length, pcs_length, er_ok, er_ok', ep_ok, ep_ok', dr_er, dp_ep, isRows_rows, isPcs_pcs, toRows_rows, toPcs_pcs, rows_take, rows_drop, pcs_take, pcs_drop, rows_append, pcs_append, ints_length, isInts_ints, toInts_ints, ei_i, ei_ok, mk_headD, ints_take, ints_drop, ints_append, ints_snoc, ints_snoc', List.take_length, Nat.zero_add, Nat.le_refl, er_a, er_b, er_k, er_n, er_s, er_v, ep_a, ep_b, ep_hk, ep_hn, ep_hs, ep_wk, ep_wn, ep_ws, cgs_length, hk, cgs_getD hk, Cg.ok, Cg.e_p, Cg.e_a, otherB, wrap_succ (show k < 9223372036854775807 by omega)]
    cases c : otherB (.node s rs ks) l[k] with
    | false =>
      rw [c] at hi go
      exact .inl ⟨(), by simpa using hi, by rw [go]; rfl⟩
    | true =>
      rw [c] at hi go
      refine .inr ⟨x140_0x0 s rn rt (rows rs) kn kt (encL ks) k, by simp, ?_, by rw [go]; rfl⟩
      rw [k140_0x0, fd_leaf, ← hi]; rfl
  · intro _ hi
    rw [List.drop_length] at hi
    refine ⟨x140_0x1 nl tt (cgs l) s rn rt (rows rs) kn kt (encL ks) l.length l.length, by simp, by rw [k140_0x1, fd_leaf, ← hi]; rfl, ?_⟩
    rw [t140_0]
    simp only [nd_ok, nd_lab, nd_rows, nd_kids, encL_length, isL_enc, decL_enc, wrap_hd, hd_pos, ld_br, ld_chk', ld_leaf, fd_br, fd_chk', fd_leaf, decide_true, decide_eq_true_eq, if_true, Int.toNat_natCast, Int.natCast_nonneg, Int.ofNat_lt, Int.ofNat_le, Bool.false_eq_true, if_false, bne_iff_ne, beq_iff_eq, ne_eq, not_true_eq_false, not_false_eq_true, Bool.not_eq_true', decide_eq_false_iff_not, reduceCtorEq, rows_length, pcs_length, er_ok, er_ok', ep_ok, ep_ok', dr_er, dp_ep, isRows_rows, isPcs_pcs, toRows_rows, toPcs_pcs, rows_take, rows_drop, pcs_take, pcs_drop, rows_append, pcs_append, ints_length, isInts_ints, toInts_ints, ei_i, ei_ok, mk_headD, ints_take, ints_drop, ints_append, ints_snoc, ints_snoc', List.take_length, Nat.zero_add, Nat.le_refl, er_a, er_b, er_k, er_n, er_s, er_v, ep_a, ep_b, ep_hk, ep_hn, ep_hs, ep_wk, ep_wn, ep_ws, Int.lt_irrefl]
theorem s140_ok : CSpecOk E 140 s140 := by
  intro a h cs vals h' he hc
  unfold s140 at he
  split at he <;> simp only [Option.some.injEq, Prod.mk.injEq, reduceCtorEq] at he
  rename_i nl tt zs s rn rt xs kn kt ys
  obtain ⟨rfl, rfl, rfl⟩ := he
  simp only [allT, Bool.and_true, Bool.and_eq_true, decide_eq_true_eq] at hc
  obtain ⟨h1, h2, h3, h4⟩ := hc
  obtain ⟨l, rfl⟩ := cgs_ex h1
  obtain ⟨rs, rfl⟩ := rows_ex h2
  obtain ⟨ks, rfl⟩ := isL_ex h3
  rw [cgs_length] at h4
  simp only [toRows_rows, decL_enc, toCgs_cgs]
  exact f140 nl tt l h4 s rn rt rs kn kt ks
theorem idxC_any (f : Cg → Bool) (l : List Cg) (j : Nat) : decide (0 ≤ idxC f l j) = l.any f := by
  induction l generalizing j with
  | nil => rfl
  | cons t r ih =>
    rw [idxC, List.any_cons]
    cases c : f t with
    | false => simpa using ih (j + 1)
    | true => simp
theorem f101 (nl : Option Bool) (tt : Bool) (l : List Cg) (hl : l.length ≤ 9223372036854775807) (s : List UInt8) (rn : Option Bool) (rt : Bool) (rs : List Row) (kn : Option Bool) (kt : Bool) (ks : List Nd) :
    call E 101 [.c (.sl 3 nl tt (cgs l)), .fn 100 [.ptr 0 0 0 0]] [.box [.c (.str s), .c (.sl 5 rn rt (rows rs)), .c (.sl 3 kn kt (encL ks))]] = some ([V.b (l.any (otherB (.node s rs ks)))], [.box [.c (.str s), .c (.sl 5 rn rt (rows rs)), .c (.sl 3 kn kt (encL ks))]]) := by
  refine call_of (E := E) (sh := sh) (ct := ctOf [(140, s140)]) (na := 2) (m := 1) (ctOf_cons s140_ok ctOf_nil) rfl rfl rfl rfl rfl rfl ?_
  rw [t101]
  simp only [nd_ok, nd_lab, nd_rows, nd_kids, encL_length, isL_enc, decL_enc, wrap_hd, hd_pos, ld_br, ld_chk', ld_leaf, fd_br, fd_chk', fd_leaf, decide_true, decide_eq_true_eq, if_true, Int.toNat_natCast, Int.natCast_nonneg, Int.ofNat_lt, Int.ofNat_le, Bool.false_eq_true, if_false, bne_iff_ne, beq_iff_eq, ne_eq, not_true_eq_false, not_false_eq_true, Bool.not_eq_true', decide_eq_false_iff_not, reduceCtorEq, rows_length, pcs_length, er_ok, er_ok', ep_ok, ep_ok', dr_er, dp_ep, isRows_rows, isPcs_pcs, toRows_rows, toPcs_pcs, rows_take, rows_drop, pcs_take, pcs_drop, rows_append, pcs_append, ints_length, isInts_ints, toInts_ints, ei_i, ei_ok, mk_headD, ints_take, ints_drop, ints_append, ints_snoc, ints_snoc', List.take_length, Nat.zero_add, Nat.le_refl, er_a, er_b, er_k, er_n, er_s, er_v, ep_a, ep_b, ep_hk, ep_hn, ep_hs, ep_wk, ep_wn, ep_ws, cgs_length, isCgs_cgs, toCgs_cgs, hl, idxC_any]
theorem s101_ok : CSpecOk E 101 s101 := by
  intro a h cs vals h' he hc
  unfold s101 at he
  split at he <;> simp only [Option.some.injEq, Prod.mk.injEq, reduceCtorEq] at he
  rename_i nl tt zs s rn rt xs kn kt ys
  obtain ⟨rfl, rfl, rfl⟩ := he
  simp only [allT, Bool.and_true, Bool.and_eq_true, decide_eq_true_eq] at hc
  obtain ⟨h1, h2, h3, h4⟩ := hc
  obtain ⟨l, rfl⟩ := cgs_ex h1
  obtain ⟨rs, rfl⟩ := rows_ex h2
  obtain ⟨ks, rfl⟩ := isL_ex h3
  rw [cgs_length] at h4
  simp only [toRows_rows, decL_enc, toCgs_cgs]
  exact f101 nl tt l h4 s rn rt rs kn kt ks
theorem f47 (t : Nd) (nl : Option Bool) (tt : Bool) (l : List Cg) (hl : l.length ≤ 9223372036854775807) (hn : ∀ c ∈ l, c.n2 ≠ some true ∨ rows c.b = []) :
    call E 47 [VT t, .c (.sl 3 nl tt (cgs l))] [] = some ([VT (repP t l).1, V.i (repP t l).2], []) := by
  have hct : (ctOf [(25, s25), (93, s93), (99, s99), (101, s101)]).ok E := ctOf_cons s25_ok (ctOf_cons s93_ok (ctOf_cons s99_ok (ctOf_cons s101_ok ctOf_nil)))
  refine call_of (E := E) (sh := sh) (ct := ctOf [(25, s25), (93, s93), (99, s99), (101, s101)]) (na := 2) (m := 0) hct rfl rfl rfl rfl rfl rfl ?_
  show p47.fd (p47.ft [VT t, .c (.sl 3 nl tt (cgs l))] []) = some (.out _ _)
  rw [show p47.ft [VT t, .c (.sl 3 nl tt (cgs l))] [] = _ from t47 _ _ _ _ _ _ _ _ _ _]
  have hL : ([[C.str t.lab, C.sl 5 none false (rows t.rows), C.sl 3 none false (encL t.kids)]] : List (List C)) = encL [t] := by simp only [encL, Nd.enc_eq]
  rw [hL]
  simp only [nd_ok, nd_lab, nd_rows, nd_kids, encL_length, isL_enc, decL_enc, wrap_hd, hd_pos, ld_br, ld_chk', ld_leaf, fd_br, fd_chk', fd_leaf, decide_true, decide_eq_true_eq, if_true, Int.toNat_natCast, Int.natCast_nonneg, Int.ofNat_lt, Int.ofNat_le, Bool.false_eq_true, if_false, bne_iff_ne, beq_iff_eq, ne_eq, not_true_eq_false, not_false_eq_true, Bool.not_eq_true', decide_eq_false_iff_not, reduceCtorEq, rows_length, pcs_length, er_ok, er_ok', ep_ok, ep_ok', dr_er, dp_ep, isRows_rows, isPcs_pcs, toRows_rows, toPcs_pcs, rows_take, rows_drop, pcs_take, pcs_drop, rows_append, pcs_append, ints_length, isInts_ints, toInts_ints, ei_i, ei_ok, mk_headD, ints_take, ints_drop, ints_append, ints_snoc, ints_snoc', List.take_length, Nat.zero_add, Nat.le_refl, er_a, er_b, er_k, er_n, er_s, er_v, ep_a, ep_b, ep_hk, ep_hn, ep_hs, ep_wk, ep_wn, ep_ws, Nd.eta, List.all_cons, List.all_nil, Bool.and_true, isCgs_cgs, toCgs_cgs, cgs_length, hl]
  unfold repP
  by_cases o1 : okR t = false
  · rw [if_pos o1, if_neg (by simp [o1])]; rfl
  rw [if_neg o1]
  by_cases o2 : mayF [] l = false
  · rw [if_pos o2, if_neg (by simp [o2])]; rfl
  rw [if_neg o2]
  rw [Bool.not_eq_false] at o1 o2
  have h12 : okR t = true ∧ mayF [] l = true := ⟨o1, o2⟩
  rw [if_pos h12]
  by_cases o3 : l.any (otherB t) = true
  · rw [if_pos o3, if_pos o3]; rfl
  rw [if_neg o3, if_neg o3]
  refine fd_post hct (by kernel_rfl) rfl (list_post (p := p47) hct (b := b47_0) l.length (fun k (u : Nd) => s47_0 u.lab none false (rows u.rows) none false (encL u.kids) nl tt (cgs l) l.length k [] (some true) true [] (some true) true []) (fun k u => repF u (l.drop k) = repF t l) _ ?_ ?_ 0 (Nat.zero_le _) t rfl)
  · intro k u hk hi
    left
    rw [List.drop_eq_getElem_cons hk] at hi
    refine ⟨(putP u l[k].p l[k].b).1, hi, ?_⟩
    rw [t47_0]
    simp only [nd_ok, nd_lab, nd_rows, nd_kids, encL_length, isL_enc, decL_enc, wrap_hd, hd_pos, ld_br, ld_chk', ld_leaf, fd_br, fd_chk', fd_leaf, decide_true, decide_eq_true_eq, if_true, Int.toNat_natCast, Int.natCast_nonneg, Int.ofNat_lt, Int.ofNat_le, Bool.false_eq_true, if_false, bne_iff_ne, beq_iff_eq, ne_eq, not_true_eq_false, not_false_eq_true, Bool.not_eq_true', decide_eq_false_iff_not, reduceCtorEq, rows_length, pcs_length, er_ok, er_ok', ep_ok, ep_ok', dr_er, dp_ep, isRows_rows, isPcs_pcs, toRows_rows, toPcs_pcs, rows_take, rows_drop, pcs_take, pcs_drop, rows_append, pcs_append, ints_length, isInts_ints, toInts_ints, ei_i, ei_ok, mk_headD, ints_take, ints_drop, ints_append, ints_snoc, ints_snoc', List.take_length, Nat.zero_add, Nat.le_refl, er_a, er_b, er_k, er_n, er_s, er_v, ep_a, ep_b, ep_hk, ep_hn, ep_hs, ep_wk, ep_wn, ep_ws, Nd.eta, cgs_length, hk, cgs_getD hk, Cg.ok, Cg.e_p, Cg.e_b, Cg.e_n2, hn _ (List.getElem_mem hk), wrap_succ (show k < 9223372036854775807 by omega)]
  · intro u hi
    rw [List.drop_length] at hi
    have hi : u = repF t l := hi
    subst hi
    refine ⟨x47_0x0 (repF t l).lab none false (rows (repF t l).rows) none false (encL (repF t l).kids) nl tt (cgs l) l.length l.length [] (some true) true [] (some true) true [], by simp, by rw [k47_0x0, fd_leaf], ?_⟩
    rw [t47_0]
    simp only [nd_ok, nd_lab, nd_rows, nd_kids, encL_length, isL_enc, decL_enc, wrap_hd, hd_pos, ld_br, ld_chk', ld_leaf, fd_br, fd_chk', fd_leaf, decide_true, decide_eq_true_eq, if_true, Int.toNat_natCast, Int.natCast_nonneg, Int.ofNat_lt, Int.ofNat_le, Bool.false_eq_true, if_false, bne_iff_ne, beq_iff_eq, ne_eq, not_true_eq_false, not_false_eq_true, Bool.not_eq_true', decide_eq_false_iff_not, reduceCtorEq, rows_length, pcs_length, er_ok, er_ok', ep_ok, ep_ok', dr_er, dp_ep, isRows_rows, isPcs_pcs, toRows_rows, toPcs_pcs, rows_take, rows_drop, pcs_take, pcs_drop, rows_append, pcs_append, ints_length, isInts_ints, toInts_ints, ei_i, ei_ok, mk_headD, ints_take, ints_drop, ints_append, ints_snoc, ints_snoc', List.take_length, Nat.zero_add, Nat.le_refl, er_a, er_b, er_k, er_n, er_s, er_v, ep_a, ep_b, ep_hk, ep_hn, ep_hs, ep_wk, ep_wn, ep_ws, Int.lt_irrefl]
end Go.Proofs.YtgaabjmbnomimaaDoor
namespace Go.Proofs.YtgaabjmbnomimaaDoor
open Go Go.Ev
-- cse
set_option pp.deepTerms true
set_option pp.maxSteps 1000000
set_option pp.funBinderTypes true
set_option pp.coercions.types true
noncomputable abbrev p135 : Par := par E sh (ctOf []) 135 1 0
abbrev s135_0 (nl : Option Bool) (tt : Bool) (xs : List (List C)) (i3 : Int) : Fr × Hp := ([(0, V.c (C.sl 5 nl tt xs)), (3, V.c (C.int IntKind.i64 i3))], [])
noncomputable abbrev b135_0 : Code := loopAt (codeOf E (135)) 0
abbrev x135_0x0 : Ex × Fr × Hp := (Ex.ret, [(2, V.c (C.bool false))], [])
abbrev x135_0x1 (nl : Option Bool) (tt : Bool) (xs : List (List C)) (i3 : Int) : Ex × Fr × Hp := (Ex.exit 0, [(0, V.c (C.sl 5 nl tt xs)), (3, V.c (C.int IntKind.i64 i3)), (10, V.c (C.bool false))], [])
theorem t135_0 (nl : Option Bool) (tt : Bool) (xs : List (List C)) (i3 : Int) : p135.lts b135_0 (s135_0 nl tt xs i3) = (Tr.br (decide (i3 < (↑xs.length : Int))) (Tr.chk (decide (0 ≤ i3)) (Tr.chk true (Tr.chk (decide (i3.toNat < xs.length)) (Tr.chk (shOk [Sk.int IntKind.i64, Sk.int IntKind.i64, Sk.int IntKind.i64, Sk.int IntKind.i64, Sk.str] (xs.getD i3.toNat [])) (Tr.br (decide (100 < (↑((xs.getD i3.toNat []).tail.tail.tail.tail.headD C.pnil).st.length : Int))) (Tr.leaf (R.x x135_0x0)) (Tr.leaf (R.s (s135_0 nl tt xs (IntKind.i64.wrap (i3 + 1)))))))))) (Tr.leaf (R.x (x135_0x1 nl tt xs i3)))) := by kernel_rfl
theorem k135_0x0 : p135.fkx 0 x135_0x0 = (Tr.leaf (R.out [V.c (C.bool false)] [])) := by kernel_rfl
theorem k135_0x1 (nl : Option Bool) (tt : Bool) (xs : List (List C)) (i3 : Int) : p135.fkx 0 (x135_0x1 nl tt xs i3) = (Tr.leaf (R.out [V.c (C.bool true)] [])) := by kernel_rfl
theorem t135 (nl : Option Bool) (tt : Bool) (xs : List (List C)) : p135.ft ([V.c (C.sl 5 nl tt xs)]) ([]) = (Tr.br (decide (70 < (↑xs.length : Int))) (Tr.leaf (R.out [V.c (C.bool false)] [])) (Tr.ls 0 (s135_0 nl tt xs (0)))) := by kernel_rfl
def s135 : CSpec := fun a h => match a, h with
  | [.c (.sl 5 nl tt xs)], [] => some ([isRows xs], [V.b (shortR (toRows xs))], [])
  | _, _ => none
variable (dd : Nat)
def s90 : CSpec := fun a h => match a, h with
  | [.agg [.c (.str s), .c (.sl 5 rn rt xs), .c (.sl 3 kn kt ys)], .c (.int .i64 n), .c (.int .i64 d)], [] => some ([isRows xs, isL ys, decide (depL (decL ys) < dd), decide (0 ≤ n), decide (n ≤ 1000), decide (-1000 ≤ d), decide (d ≤ 1000), lensT (.node s (toRows xs) (decL ys))], [V.i (leftT (.node s (toRows xs) (decL ys)) n d)], [])
  | _, _ => none
noncomputable abbrev p90 : Par := par E sh (ctOf [(135, s135), (90, s90 dd)]) 90 3 0
abbrev s90_0 (s : List UInt8) (rn : Option Bool) (rt : Bool) (xs : List (List C)) (kn : Option Bool) (kt : Bool) (ys : List (List C)) (d : Int) (i1 : Int) (i7 : Int) : Fr × Hp := ([(1, V.c (C.int IntKind.i64 i1)), (2, V.c (C.int IntKind.i64 d)), (3, V.ptr 0 0 0 0), (7, V.c (C.int IntKind.i64 i7))], [O.box [V.c (C.str s), V.c (C.sl 5 rn rt xs), V.c (C.sl 3 kn kt ys)]])
noncomputable abbrev b90_0 : Code := loopAt (codeOf E (90)) 0
abbrev x90_0x0 (s : List UInt8) (rn : Option Bool) (rt : Bool) (xs : List (List C)) (kn : Option Bool) (kt : Bool) (ys : List (List C)) (d : Int) (i1 : Int) (i7 : Int) : Ex × Fr × Hp := (Ex.exit 0, [(1, V.c (C.int IntKind.i64 i1)), (2, V.c (C.int IntKind.i64 d)), (3, V.ptr 0 0 0 0), (7, V.c (C.int IntKind.i64 i7)), (35, V.c (C.bool false))], [O.box [V.c (C.str s), V.c (C.sl 5 rn rt xs), V.c (C.sl 3 kn kt ys)]])
theorem t90_0 (s : List UInt8) (rn : Option Bool) (rt : Bool) (xs : List (List C)) (kn : Option Bool) (kt : Bool) (ys : List (List C)) (d : Int) (i1 : Int) (i7 : Int) : (p90 dd).lts b90_0 (s90_0 s rn rt xs kn kt ys d i1 i7) = (Tr.br (decide (i7 < (↑ys.length : Int))) (Tr.br (decide (0 < i1)) (Tr.chk (decide (0 ≤ i7)) (Tr.chk true (Tr.chk (decide (i7.toNat < ys.length)) (Tr.chk (shOk [Sk.str, Sk.sl 5, Sk.sl 3] (ys.getD i7.toNat [])) (Tr.chk (isRows ((ys.getD i7.toNat []).tail.headD C.pnil).xs) (Tr.chk (isL ((ys.getD i7.toNat []).tail.tail.headD C.pnil).xs) (Tr.chk (decide (depL (decL ((ys.getD i7.toNat []).tail.tail.headD C.pnil).xs) < dd)) (Tr.chk (decide (0 ≤ i1)) (Tr.chk (decide (i1 ≤ 1000)) (Tr.chk (decide (-1000 ≤ IntKind.i64.wrap (d - 1))) (Tr.chk (decide (IntKind.i64.wrap (d - 1) ≤ 1000)) (Tr.chk (lensT (Nd.node ((ys.getD i7.toNat []).headD C.pnil).st (toRows ((ys.getD i7.toNat []).tail.headD C.pnil).xs) (decL ((ys.getD i7.toNat []).tail.tail.headD C.pnil).xs))) (Tr.leaf (R.s (s90_0 s rn rt xs kn kt ys d (leftT (Nd.node ((ys.getD i7.toNat []).headD C.pnil).st (toRows ((ys.getD i7.toNat []).tail.headD C.pnil).xs) (decL ((ys.getD i7.toNat []).tail.tail.headD C.pnil).xs)) i1 (IntKind.i64.wrap (d - 1))) (IntKind.i64.wrap (i7 + 1))))))))))))))))) (Tr.leaf (R.x (x90_0x0 s rn rt xs kn kt ys d i1 i7)))) (Tr.leaf (R.x (x90_0x0 s rn rt xs kn kt ys d i1 i7)))) := by kernel_rfl
theorem k90_0x0 (dd : Nat) (s : List UInt8) (rn : Option Bool) (rt : Bool) (xs : List (List C)) (kn : Option Bool) (kt : Bool) (ys : List (List C)) (d : Int) (i1 : Int) (i7 : Int) : (p90 dd).fkx 0 (x90_0x0 s rn rt xs kn kt ys d i1 i7) = (Tr.leaf (R.out [V.c (C.int IntKind.i64 i1)] [])) := by kernel_rfl
theorem t90 (s : List UInt8) (rn : Option Bool) (rt : Bool) (xs : List (List C)) (kn : Option Bool) (kt : Bool) (ys : List (List C)) (n : Int) (d : Int) : (p90 dd).ft ([V.agg [V.c (C.str s), V.c (C.sl 5 rn rt xs), V.c (C.sl 3 kn kt ys)], V.i n, V.i d]) ([]) = (Tr.chk true (Tr.br (decide (d < 1)) (Tr.leaf (R.out [V.c (C.int IntKind.i64 0)] [])) (Tr.br (decide (IntKind.i64.wrap (IntKind.i64.wrap (n - 1) - IntKind.i64.wrap ((↑s.length : Int).tdiv 50)) < 1)) (Tr.leaf (R.out [V.c (C.int IntKind.i64 0)] [])) (Tr.chk (isRows xs) (Tr.br (!shortR (toRows xs)) (Tr.leaf (R.out [V.c (C.int IntKind.i64 0)] [])) (Tr.ls 0 (s90_0 s rn rt xs kn kt ys d (IntKind.i64.wrap (IntKind.i64.wrap (n - 1) - IntKind.i64.wrap ((↑s.length : Int).tdiv 50))) (0)))))))) := by kernel_rfl
noncomputable abbrev p41 : Par := par E sh (ctOf [(90, s90 dd)]) 41 1 0
theorem t41 (s : List UInt8) (rn : Option Bool) (rt : Bool) (xs : List (List C)) (kn : Option Bool) (kt : Bool) (ys : List (List C)) : (p41 dd).ft ([V.agg [V.c (C.str s), V.c (C.sl 5 rn rt xs), V.c (C.sl 3 kn kt ys)]]) ([]) = (Tr.chk (isRows xs) (Tr.chk (isL ys) (Tr.chk (decide (depL (decL ys) < dd)) (Tr.chk true (Tr.chk true (Tr.chk true (Tr.chk true (Tr.chk (lensT (Nd.node s (toRows xs) (decL ys))) (Tr.leaf (R.out [V.c (C.bool (decide (0 < leftT (Nd.node s (toRows xs) (decL ys)) 200 60)))] [])))))))))) := by kernel_rfl
def smallD (t : Nd) : Bool := decide (0 < leftT t 200 60)
def s41 : CSpec := fun a h => match a, h with
  | [.agg [.c (.str s), .c (.sl 5 rn rt xs), .c (.sl 3 kn kt ys)]], [] => some ([isRows xs, isL ys, lensT (.node s (toRows xs) (decL ys))], [V.b (smallD (.node s (toRows xs) (decL ys)))], [])
  | _, _ => none
def s42 : CSpec := fun a h => match a, h with
  | [], [] => some ([], [V.b true], [])
  | _, _ => none
def s43 : CSpec := fun a h => match a, h with
  | [.agg [.c (.str s), .c (.sl 5 none false xs), .c (.sl 3 none false ys)], .agg [.c (.str s2), .c (.sl 5 none false xs2), .c (.sl 3 none false ys2)], .agg [.c (.str s3), .c (.sl 5 none false xs3), .c (.sl 3 none false ys3)]], [] => some ([isRows xs, isL ys, isRows xs2, isL ys2, isRows xs3, isL ys3, decide ((entL (decL ys)).length < 1000000000), decide ((entL (decL ys2)).length < 1000000000), decide ((entL (decL ys3)).length < 1000000000)],
    [VT (mergeP (.node s (toRows xs) (decL ys)) (.node s2 (toRows xs2) (decL ys2)) (.node s3 (toRows xs3) (decL ys3))).1, .c (.sl 1 none false (strs (mergeP (.node s (toRows xs) (decL ys)) (.node s2 (toRows xs2) (decL ys2)) (.node s3 (toRows xs3) (decL ys3))).2.1)), V.i (mergeP (.node s (toRows xs) (decL ys)) (.node s2 (toRows xs2) (decL ys2)) (.node s3 (toRows xs3) (decL ys3))).2.2], [])
  | _, _ => none
def s46 : CSpec := fun a h => match a, h with
  | [.agg [.c (.str s), .c (.sl 5 none false xs), .c (.sl 3 none false ys)], .agg [.c (.str s2), .c (.sl 5 none false xs2), .c (.sl 3 none false ys2)]], [] => some ([isRows xs, isL ys, isRows xs2, isL ys2, decide ((entL (decL ys)).length < 1000000000), decide ((entL (decL ys2)).length < 1000000000)],
    [.c (.sl 3 none false (chgs (chgP (.node s (toRows xs) (decL ys)) (.node s2 (toRows xs2) (decL ys2)))))], [])
  | _, _ => none
end Go.Proofs.YtgaabjmbnomimaaDoor
namespace Go.Proofs.YtgaabjmbnomimaaDoor
open Go Go.Ev
theorem f135 (l : List Row) (nl : Option Bool) (tt : Bool) : call E 135 [.c (.sl 5 nl tt (rows l))] [] = some ([V.b (shortR l)], []) := by
  have hct : (ctOf []).ok E := ctOf_nil
  refine call_of (E := E) (sh := sh) (ct := ctOf []) (na := 1) (m := 0) hct rfl rfl rfl rfl rfl rfl ?_
  rw [t135, rows_length, fd_br]
  unfold shortR
  by_cases c0 : (70 : Int) < l.length
  · rw [if_pos (by simpa using c0), fd_leaf]
    have : ¬ l.length ≤ 70 := by omega
    simp [this]
  rw [if_neg (by simpa using c0)]
  have c0' : l.length ≤ 70 := by omega
  simp only [c0', decide_true, Bool.true_and]
  refine fd_post hct (by kernel_rfl) rfl (list_post (p := p135) hct (b := b135_0) l.length (fun k (_ : Unit) => s135_0 nl tt (rows l) k) (fun k _ => ((l.drop k).all fun r => decide (r.v.s.length ≤ 100)) = (l.all fun r => decide (r.v.s.length ≤ 100))) _ ?_ ?_ 0 (Nat.zero_le _) () rfl)
  · rintro k _ hk hi
    rw [List.drop_eq_getElem_cons hk, List.all_cons] at hi
    rw [t135_0]
    simp only [ld_br, ld_chk', ld_leaf, fd_br, fd_chk', fd_leaf, decide_true, decide_eq_true_eq, if_true, Int.toNat_natCast, Int.natCast_nonneg, Int.ofNat_lt, Int.ofNat_le, Bool.false_eq_true, if_false, bne_iff_ne, beq_iff_eq, ne_eq, not_true_eq_false, not_false_eq_true, Bool.not_eq_true', decide_eq_false_iff_not, reduceCtorEq, rows_length, pcs_length, er_ok, er_ok', ep_ok, ep_ok', dr_er, dp_ep, isRows_rows, isPcs_pcs, toRows_rows, toPcs_pcs, rows_take, rows_drop, pcs_take, pcs_drop, rows_append, pcs_append, ints_length, isInts_ints, toInts_ints, ei_i, ei_ok, mk_headD, ints_take, ints_drop, ints_append, ints_snoc, ints_snoc', List.take_length, Nat.zero_add, Nat.le_refl, er_a, er_b, er_k, er_n, er_s, er_v, ep_a, ep_b, ep_hk, ep_hn, ep_hs, ep_wk, ep_wn, ep_ws, hk, rows_getD hk, wrap_succ (show k < 9223372036854775807 by omega)]
    by_cases c : (100 : Int) < l[k].v.s.length
    · have : ¬ l[k].v.s.length ≤ 100 := by omega
      simp only [this, decide_false, Bool.false_and] at hi
      exact .inr ⟨x135_0x0, by simp, by rw [k135_0x0, fd_leaf, ← hi], by rw [if_pos c]⟩
    · have : l[k].v.s.length ≤ 100 := by omega
      simp only [this, decide_true, Bool.true_and] at hi
      exact .inl ⟨(), hi, by rw [if_neg c]⟩
  · rintro _ hi
    rw [List.drop_length, List.all_nil] at hi
    rw [t135_0]
    exact ⟨x135_0x1 nl tt (rows l) l.length, by simp, by rw [k135_0x1, fd_leaf, ← hi], by simp only [ld_br, ld_chk', ld_leaf, fd_br, fd_chk', fd_leaf, decide_true, decide_eq_true_eq, if_true, Int.toNat_natCast, Int.natCast_nonneg, Int.ofNat_lt, Int.ofNat_le, Bool.false_eq_true, if_false, bne_iff_ne, beq_iff_eq, ne_eq, not_true_eq_false, not_false_eq_true, Bool.not_eq_true', decide_eq_false_iff_not, reduceCtorEq, rows_length, pcs_length, er_ok, er_ok', ep_ok, ep_ok', dr_er, dp_ep, isRows_rows, isPcs_pcs, toRows_rows, toPcs_pcs, rows_take, rows_drop, pcs_take, pcs_drop, rows_append, pcs_append, ints_length, isInts_ints, toInts_ints, ei_i, ei_ok, mk_headD, ints_take, ints_drop, ints_append, ints_snoc, ints_snoc', List.take_length, Nat.zero_add, Nat.le_refl, er_a, er_b, er_k, er_n, er_s, er_v, ep_a, ep_b, ep_hk, ep_hn, ep_hs, ep_wk, ep_wn, ep_ws, Int.lt_irrefl]⟩
theorem s135_ok : CSpecOk E 135 s135 := by
  intro a h cs vals h' he hc
  unfold s135 at he
  split at he <;> simp only [Option.some.injEq, Prod.mk.injEq, reduceCtorEq] at he
  rename_i nl tt xs
  obtain ⟨rfl, rfl, rfl⟩ := he
  simp only [allT, Bool.and_true, Bool.and_eq_true, decide_eq_true_eq] at hc
  obtain ⟨l, rfl⟩ := rows_ex hc
  rw [toRows_rows]
  exact f135 l nl tt
theorem f90 (dd : Nat) (ih : CSpecOk E 90 (s90 dd)) (s : List UInt8) (rn : Option Bool) (rt : Bool) (rs : List Row) (kn : Option Bool) (kt : Bool) (ks : List Nd) (n d : Int) (hd : depL ks < dd + 1) (h0 : 0 ≤ n) (h1 : n ≤ 1000) (h2 : -1000 ≤ d) (h3 : d ≤ 1000) (hl : lensT (.node s rs ks) = true) :
    call E 90 [.agg [.c (.str s), .c (.sl 5 rn rt (rows rs)), .c (.sl 3 kn kt (encL ks))], V.i n, V.i d] [] = some ([V.i (leftT (.node s rs ks) n d)], []) := by
  have hct : (ctOf [(135, s135), (90, s90 dd)]).ok E := ctOf_cons s135_ok (ctOf_cons ih ctOf_nil)
  refine call_of (E := E) (sh := sh) (ct := ctOf [(135, s135), (90, s90 dd)]) (na := 3) (m := 0) hct rfl rfl rfl rfl rfl rfl ?_
  show (p90 dd).fd ((p90 dd).ft _ _) = _
  rw [lensT] at hl
  simp only [Bool.and_eq_true, decide_eq_true_eq] at hl
  obtain ⟨⟨⟨l1, l2⟩, l4⟩, l3⟩ := hl
  have w0 : ((s.length : Int).tdiv 50) = ((s.length / 50 : Nat) : Int) := rfl
  have w1 : IntKind.wrap .i64 (IntKind.wrap .i64 (n - 1) - IntKind.wrap .i64 ((s.length : Int).tdiv 50)) = n - 1 - ((s.length / 50 : Nat) : Int) := by
    rw [w0, wrap_same (n := n - 1) (by omega) (by omega), wrap_same (n := ((s.length / 50 : Nat) : Int)) (by omega) (by omega), wrap_same (by omega) (by omega)]
  rw [t90, w1]
  simp only [nd_ok, nd_lab, nd_rows, nd_kids, encL_length, isL_enc, decL_enc, wrap_hd, hd_pos, ld_br, ld_chk', ld_leaf, fd_br, fd_chk', fd_leaf, decide_true, decide_eq_true_eq, if_true, Int.toNat_natCast, Int.natCast_nonneg, Int.ofNat_lt, Int.ofNat_le, Bool.false_eq_true, if_false, bne_iff_ne, beq_iff_eq, ne_eq, not_true_eq_false, not_false_eq_true, Bool.not_eq_true', decide_eq_false_iff_not, reduceCtorEq, rows_length, pcs_length, er_ok, er_ok', ep_ok, ep_ok', dr_er, dp_ep, isRows_rows, isPcs_pcs, toRows_rows, toPcs_pcs, rows_take, rows_drop, pcs_take, pcs_drop, rows_append, pcs_append, ints_length, isInts_ints, toInts_ints, ei_i, ei_ok, mk_headD, ints_take, ints_drop, ints_append, ints_snoc, ints_snoc', List.take_length, Nat.zero_add, Nat.le_refl, er_a, er_b, er_k, er_n, er_s, er_v, ep_a, ep_b, ep_hk, ep_hn, ep_hs, ep_wk, ep_wn, ep_ws]
  rw [leftT]
  have hm : n - 1 - ((s.length / 50 : Nat) : Int) ≤ 1000 := by omega
  generalize n - 1 - ((s.length / 50 : Nat) : Int) = m at *
  by_cases c1 : d < 1
  · simp [c1]
  rw [if_neg c1]
  by_cases c2 : m < 1
  · simp [c2]
  rw [if_neg c2]
  by_cases c3 : shortR rs = false
  · simp [c3]
  rw [if_neg c3, if_neg (show ¬ (d < 1 ∨ m < 1 ∨ shortR rs = false) from fun h => h.elim c1 fun h => h.elim c2 c3)]
  have hm0 : 0 ≤ m := by omega
  have w2 : IntKind.wrap .i64 (d - 1) = d - 1 := wrap_same (by omega) (by omega)
  refine fd_post hct (by kernel_rfl) rfl (list_post (p := p90 dd) hct (b := b90_0) ks.length (fun k (m : Int) => s90_0 s rn rt (rows rs) kn kt (encL ks) d m k) (fun k m' => leftL (ks.drop k) m' (d - 1) = leftL ks m (d - 1) ∧ 0 ≤ m' ∧ m' ≤ 1000) _ ?_ ?_ 0 (Nat.zero_le _) m ⟨rfl, hm0, hm⟩)
  · rintro k m' hk ⟨hi, hm1, hm2⟩
    rw [List.drop_eq_getElem_cons hk, leftL_cons] at hi
    have hkid : depL ks[k].kids < dd := by have := depL_kid (List.getElem_mem hk); omega
    rw [t90_0]
    by_cases c : 0 < m'
    · rw [if_pos c] at hi
      have hb := leftT_le ks[k] m' (d - 1) hm1
      refine .inl ⟨leftT ks[k] m' (d - 1), ⟨hi, hb.1, by omega⟩, ?_⟩
      simp only [nd_ok, nd_lab, nd_rows, nd_kids, encL_length, isL_enc, decL_enc, wrap_hd, hd_pos, ld_br, ld_chk', ld_leaf, fd_br, fd_chk', fd_leaf, decide_true, decide_eq_true_eq, if_true, Int.toNat_natCast, Int.natCast_nonneg, Int.ofNat_lt, Int.ofNat_le, Bool.false_eq_true, if_false, bne_iff_ne, beq_iff_eq, ne_eq, not_true_eq_false, not_false_eq_true, Bool.not_eq_true', decide_eq_false_iff_not, reduceCtorEq, rows_length, pcs_length, er_ok, er_ok', ep_ok, ep_ok', dr_er, dp_ep, isRows_rows, isPcs_pcs, toRows_rows, toPcs_pcs, rows_take, rows_drop, pcs_take, pcs_drop, rows_append, pcs_append, ints_length, isInts_ints, toInts_ints, ei_i, ei_ok, mk_headD, ints_take, ints_drop, ints_append, ints_snoc, ints_snoc', List.take_length, Nat.zero_add, Nat.le_refl, er_a, er_b, er_k, er_n, er_s, er_v, ep_a, ep_b, ep_hk, ep_hn, ep_hs, ep_wk, ep_wn, ep_ws, hk, encL_getD hk, nd_node, hkid, w2, hm1, hm2, c, show -1000 ≤ d - 1 by omega, show d - 1 ≤ 1000 by omega, lensL_mem l3 (List.getElem_mem hk), wrap_succ (show k < 9223372036854775807 by omega)]
    · rw [if_neg c] at hi
      exact .inr ⟨x90_0x0 s rn rt (rows rs) kn kt (encL ks) d m' k, by simp, by rw [k90_0x0, fd_leaf, ← hi], by simp only [nd_ok, nd_lab, nd_rows, nd_kids, encL_length, isL_enc, decL_enc, wrap_hd, hd_pos, ld_br, ld_chk', ld_leaf, fd_br, fd_chk', fd_leaf, decide_true, decide_eq_true_eq, if_true, Int.toNat_natCast, Int.natCast_nonneg, Int.ofNat_lt, Int.ofNat_le, Bool.false_eq_true, if_false, bne_iff_ne, beq_iff_eq, ne_eq, not_true_eq_false, not_false_eq_true, Bool.not_eq_true', decide_eq_false_iff_not, reduceCtorEq, rows_length, pcs_length, er_ok, er_ok', ep_ok, ep_ok', dr_er, dp_ep, isRows_rows, isPcs_pcs, toRows_rows, toPcs_pcs, rows_take, rows_drop, pcs_take, pcs_drop, rows_append, pcs_append, ints_length, isInts_ints, toInts_ints, ei_i, ei_ok, mk_headD, ints_take, ints_drop, ints_append, ints_snoc, ints_snoc', List.take_length, Nat.zero_add, Nat.le_refl, er_a, er_b, er_k, er_n, er_s, er_v, ep_a, ep_b, ep_hk, ep_hn, ep_hs, ep_wk, ep_wn, ep_ws, hk, c]⟩
  · rintro m' ⟨hi, hm1, hm2⟩
    rw [List.drop_length, leftL] at hi
    rw [t90_0]
    exact ⟨x90_0x0 s rn rt (rows rs) kn kt (encL ks) d m' ks.length, by simp, by rw [k90_0x0, fd_leaf, ← hi], by simp only [nd_ok, nd_lab, nd_rows, nd_kids, encL_length, isL_enc, decL_enc, wrap_hd, hd_pos, ld_br, ld_chk', ld_leaf, fd_br, fd_chk', fd_leaf, decide_true, decide_eq_true_eq, if_true, Int.toNat_natCast, Int.natCast_nonneg, Int.ofNat_lt, Int.ofNat_le, Bool.false_eq_true, if_false, bne_iff_ne, beq_iff_eq, ne_eq, not_true_eq_false, not_false_eq_true, Bool.not_eq_true', decide_eq_false_iff_not, reduceCtorEq, rows_length, pcs_length, er_ok, er_ok', ep_ok, ep_ok', dr_er, dp_ep, isRows_rows, isPcs_pcs, toRows_rows, toPcs_pcs, rows_take, rows_drop, pcs_take, pcs_drop, rows_append, pcs_append, ints_length, isInts_ints, toInts_ints, ei_i, ei_ok, mk_headD, ints_take, ints_drop, ints_append, ints_snoc, ints_snoc', List.take_length, Nat.zero_add, Nat.le_refl, er_a, er_b, er_k, er_n, er_s, er_v, ep_a, ep_b, ep_hk, ep_hn, ep_hs, ep_wk, ep_wn, ep_ws, Int.lt_irrefl]⟩
theorem s90_ok : ∀ d, CSpecOk E 90 (s90 d)
  | 0 => by
    intro a h cs vals h' he hc
    unfold s90 at he
    split at he <;> simp only [Option.some.injEq, Prod.mk.injEq, reduceCtorEq] at he
    obtain ⟨rfl, rfl, rfl⟩ := he
    simp [allT] at hc
  | d + 1 => by
    intro a h cs vals h' he hc
    unfold s90 at he
    split at he <;> simp only [Option.some.injEq, Prod.mk.injEq, reduceCtorEq] at he
    rename_i s rn rt xs kn kt ys n k
    obtain ⟨rfl, rfl, rfl⟩ := he
    simp only [allT, Bool.and_true, Bool.and_eq_true, decide_eq_true_eq] at hc
    obtain ⟨h1, h2, h3, h4, h5, h6, h7, h8⟩ := hc
    obtain ⟨rs, rfl⟩ := rows_ex h1
    obtain ⟨ks, rfl⟩ := isL_ex h2
    simp only [toRows_rows, decL_enc] at *
    exact f90 d (s90_ok d) s rn rt rs kn kt ks n k h3 h4 h5 h6 h7 h8
theorem f41 (t : Nd) (rn : Option Bool) (rt : Bool) (kn : Option Bool) (kt : Bool) (hl : lensT t = true) :
    call E 41 [.agg [.c (.str t.lab), .c (.sl 5 rn rt (rows t.rows)), .c (.sl 3 kn kt (encL t.kids))]] [] = some ([V.b (smallD t)], []) := by
  have hct : (ctOf [(90, s90 (depL t.kids + 1))]).ok E := ctOf_cons (s90_ok _) ctOf_nil
  refine call_of (E := E) (sh := sh) (ct := ctOf [(90, s90 (depL t.kids + 1))]) (na := 1) (m := 0) hct rfl rfl rfl rfl rfl rfl ?_
  show (p41 (depL t.kids + 1)).fd ((p41 (depL t.kids + 1)).ft _ _) = _
  rw [t41]
  simp only [nd_ok, nd_lab, nd_rows, nd_kids, encL_length, isL_enc, decL_enc, wrap_hd, hd_pos, ld_br, ld_chk', ld_leaf, fd_br, fd_chk', fd_leaf, decide_true, decide_eq_true_eq, if_true, Int.toNat_natCast, Int.natCast_nonneg, Int.ofNat_lt, Int.ofNat_le, Bool.false_eq_true, if_false, bne_iff_ne, beq_iff_eq, ne_eq, not_true_eq_false, not_false_eq_true, Bool.not_eq_true', decide_eq_false_iff_not, reduceCtorEq, rows_length, pcs_length, er_ok, er_ok', ep_ok, ep_ok', dr_er, dp_ep, isRows_rows, isPcs_pcs, toRows_rows, toPcs_pcs, rows_take, rows_drop, pcs_take, pcs_drop, rows_append, pcs_append, ints_length, isInts_ints, toInts_ints, ei_i, ei_ok, mk_headD, ints_take, ints_drop, ints_append, ints_snoc, ints_snoc', List.take_length, Nat.zero_add, Nat.le_refl, er_a, er_b, er_k, er_n, er_s, er_v, ep_a, ep_b, ep_hk, ep_hn, ep_hs, ep_wk, ep_wn, ep_ws, nd_node, show depL t.kids < depL t.kids + 1 by omega, hl, smallD]
theorem s41_ok : CSpecOk E 41 s41 := by
  intro a h cs vals h' he hc
  unfold s41 at he
  split at he <;> simp only [Option.some.injEq, Prod.mk.injEq, reduceCtorEq] at he
  rename_i s rn rt xs kn kt ys
  obtain ⟨rfl, rfl, rfl⟩ := he
  simp only [allT, Bool.and_true, Bool.and_eq_true, decide_eq_true_eq] at hc
  obtain ⟨h1, h2, h3⟩ := hc
  obtain ⟨rs, rfl⟩ := rows_ex h1
  obtain ⟨ks, rfl⟩ := isL_ex h2
  simp only [toRows_rows, decL_enc] at *
  exact f41 (.node s rs ks) rn rt kn kt h3
set_option maxRecDepth 100000 in
theorem f42 : call E 42 [] [] = some ([V.b true], []) := call_iff.2 ⟨200, by kernel_rfl⟩
theorem s42_ok : CSpecOk E 42 s42 := by
  intro a h cs vals h' he hc
  unfold s42 at he
  split at he <;> simp only [Option.some.injEq, Prod.mk.injEq, reduceCtorEq] at he
  obtain ⟨rfl, rfl, rfl⟩ := he
  exact f42
theorem s46_ok : CSpecOk E 46 s46 := by
  intro a h cs vals h' he hc
  unfold s46 at he
  split at he <;> simp only [Option.some.injEq, Prod.mk.injEq, reduceCtorEq] at he
  rename_i s xs ys s2 xs2 ys2
  obtain ⟨rfl, rfl, rfl⟩ := he
  simp only [allT, Bool.and_true, Bool.and_eq_true, decide_eq_true_eq] at hc
  obtain ⟨h1, h2, h3, h4, h7, h8⟩ := hc
  obtain ⟨rs, rfl⟩ := rows_ex h1
  obtain ⟨ks, rfl⟩ := isL_ex h2
  obtain ⟨rs2, rfl⟩ := rows_ex h3
  obtain ⟨ks2, rfl⟩ := isL_ex h4
  simp only [toRows_rows, decL_enc] at *
  exact f46 (.node s rs ks) (.node s2 rs2 ks2) h7 h8
end Go.Proofs.YtgaabjmbnomimaaDoor
namespace Go.Proofs.YtgaabjmbnomimaaDoor
open Go Go.Ev
-- cse
set_option pp.deepTerms true
set_option pp.maxSteps 1000000
set_option pp.funBinderTypes true
set_option pp.coercions.types true
def cgOk (l : List Cg) : Bool := l.all fun c => decide (c.n2 ≠ some true ∨ c.b = [])
def s47 : CSpec := fun a h => match a, h with
  | [.agg [.c (.str s), .c (.sl 5 none false xs), .c (.sl 3 none false ys)], .c (.sl 3 nl tt zs)], [] => some ([isRows xs, isL ys, isCgs zs, decide (zs.length ≤ 9223372036854775807), cgOk (toCgs zs)], [VT (repP (.node s (toRows xs) (decL ys)) (toCgs zs)).1, V.i (repP (.node s (toRows xs) (decL ys)) (toCgs zs)).2], [])
  | _, _ => none
noncomputable abbrev p12 : Par := par E sh (ctOf [(17, s17n), (28, s28), (41, s41), (42, s42), (46, s46), (47, s47)]) 12 2 0
abbrev s12_0 (s : List UInt8) (xs : List (List C)) (ys : List (List C)) (s2 : List UInt8) (xs2 : List (List C)) (ys2 : List (List C)) (nl5 : Option Bool) (t5 : Bool) (xs5 : List (List C)) (i7 : Int) (n8 : Nat) (i9 : Int) (nlh0 : Option Bool) (th0 : Bool) (nlh0_1 : Option Bool) (th0_1 : Bool) (nlh1 : Option Bool) (th1 : Bool) (nlh1_1 : Option Bool) (th1_1 : Bool) (sh2 : List UInt8) (nlh2 : Option Bool) (th2 : Bool) (xsh2 : List (List C)) (nlh2_1 : Option Bool) (th2_1 : Bool) (xsh2_1 : List (List C)) (ys3 : List (List C)) : Fr × Hp := ([(2, V.ptr 0 0 0 0), (3, V.ptr 1 0 0 0), (5, V.c (C.sl 3 nl5 t5 xs5)), (6, V.ptr 2 0 0 0), (7, V.c (C.int IntKind.i64 i7)), (8, V.buf 3 0 0 n8), (9, V.c (C.int IntKind.i64 i9))], [O.box [V.c (C.str s), V.c (C.sl 5 nlh0 th0 xs), V.c (C.sl 3 nlh0_1 th0_1 ys)], O.box [V.c (C.str s2), V.c (C.sl 5 nlh1 th1 xs2), V.c (C.sl 3 nlh1_1 th1_1 ys2)], O.box [V.c (C.str sh2), V.c (C.sl 5 nlh2 th2 xsh2), V.c (C.sl 3 nlh2_1 th2_1 xsh2_1)], O.mem 3 0 ys3])
noncomputable abbrev b12_0 : Code := loopAt (codeOf E (12)) 0
abbrev x12_0x0 (s : List UInt8) (xs : List (List C)) (ys : List (List C)) (s2 : List UInt8) (xs2 : List (List C)) (ys2 : List (List C)) (nl5 : Option Bool) (t5 : Bool) (xs5 : List (List C)) (i7 : Int) (n8 : Nat) (i9 : Int) (nlh0 : Option Bool) (th0 : Bool) (nlh0_1 : Option Bool) (th0_1 : Bool) (nlh1 : Option Bool) (th1 : Bool) (nlh1_1 : Option Bool) (th1_1 : Bool) (sh2 : List UInt8) (nlh2 : Option Bool) (th2 : Bool) (xsh2 : List (List C)) (nlh2_1 : Option Bool) (th2_1 : Bool) (xsh2_1 : List (List C)) (ys3 : List (List C)) : Ex × Fr × Hp := (Ex.exit 0, [(2, V.ptr 0 0 0 0), (3, V.ptr 1 0 0 0), (5, V.c (C.sl 3 nl5 t5 xs5)), (6, V.ptr 2 0 0 0), (7, V.c (C.int IntKind.i64 i7)), (8, V.buf 3 0 0 n8), (9, V.c (C.int IntKind.i64 i9)), (43, V.c (C.bool false))], [O.box [V.c (C.str s), V.c (C.sl 5 nlh0 th0 xs), V.c (C.sl 3 nlh0_1 th0_1 ys)], O.box [V.c (C.str s2), V.c (C.sl 5 nlh1 th1 xs2), V.c (C.sl 3 nlh1_1 th1_1 ys2)], O.box [V.c (C.str sh2), V.c (C.sl 5 nlh2 th2 xsh2), V.c (C.sl 3 nlh2_1 th2_1 xsh2_1)], O.mem 3 0 ys3])
theorem t12_0 (s : List UInt8) (xs : List (List C)) (ys : List (List C)) (s2 : List UInt8) (xs2 : List (List C)) (ys2 : List (List C)) (nl5 : Option Bool) (t5 : Bool) (xs5 : List (List C)) (i7 : Int) (n8 : Nat) (i9 : Int) (nlh0 : Option Bool) (th0 : Bool) (nlh0_1 : Option Bool) (th0_1 : Bool) (nlh1 : Option Bool) (th1 : Bool) (nlh1_1 : Option Bool) (th1_1 : Bool) (sh2 : List UInt8) (nlh2 : Option Bool) (th2 : Bool) (xsh2 : List (List C)) (nlh2_1 : Option Bool) (th2_1 : Bool) (xsh2_1 : List (List C)) (ys3 : List (List C)) : p12.lts b12_0 (s12_0 s xs ys s2 xs2 ys2 nl5 t5 xs5 i7 n8 i9 nlh0 th0 nlh0_1 th0_1 nlh1 th1 nlh1_1 th1_1 sh2 nlh2 th2 xsh2 nlh2_1 th2_1 xsh2_1 ys3) = (Tr.br (decide (i9 < (↑xs5.length : Int))) (Tr.chk (decide (0 ≤ i9)) (Tr.chk true (Tr.chk (decide (i9.toNat < xs5.length)) (Tr.chk (shOk [Sk.str, Sk.slx 5, Sk.slx 5] (xs5.getD i9.toNat [])) (Tr.chk (decide (0 ≤ i9)) (Tr.chk true (Tr.chk (decide (i9.toNat < xs5.length)) (Tr.chk (shOk [Sk.str, Sk.slx 5, Sk.slx 5] (xs5.getD i9.toNat [])) (Tr.chk (decide (0 ≤ i9)) (Tr.chk true (Tr.chk (decide (i9.toNat < xs5.length)) (Tr.chk (shOk [Sk.str, Sk.slx 5, Sk.slx 5] (xs5.getD i9.toNat [])) (Tr.chk true (Tr.chk true (Tr.chk (decide (n8 + 1 < 4294967296)) (Tr.chk true (Tr.leaf (R.s (s12_0 s xs ys s2 xs2 ys2 nl5 t5 xs5 i7 (n8 + 1) (IntKind.i64.wrap (i9 + 1)) nlh0 th0 nlh0_1 th0_1 nlh1 th1 nlh1_1 th1_1 sh2 nlh2 th2 xsh2 nlh2_1 th2_1 xsh2_1 (List.take n8 ys3 ++ [[Sk.str.mk ((xs5.getD i9.toNat []).headD C.pnil), (Sk.slx 5).mk ((xs5.getD i9.toNat []).tail.tail.headD C.pnil), (Sk.slx 5).mk ((xs5.getD i9.toNat []).tail.headD C.pnil)]])))))))))))))))))))) (Tr.leaf (R.x (x12_0x0 s xs ys s2 xs2 ys2 nl5 t5 xs5 i7 n8 i9 nlh0 th0 nlh0_1 th0_1 nlh1 th1 nlh1_1 th1_1 sh2 nlh2 th2 xsh2 nlh2_1 th2_1 xsh2_1 ys3)))) := by kernel_rfl
theorem t12 (s : List UInt8) (xs : List (List C)) (ys : List (List C)) (s2 : List UInt8) (xs2 : List (List C)) (ys2 : List (List C)) : p12.ft ([V.agg [V.c (C.str s), V.c (C.sl 5 none false xs), V.c (C.sl 3 none false ys)], V.agg [V.c (C.str s2), V.c (C.sl 5 none false xs2), V.c (C.sl 3 none false ys2)]]) ([]) = (Tr.chk (isRows xs) (Tr.chk (isL ys) (Tr.chk (lensT (Nd.node s (toRows xs) (decL ys))) (Tr.br (!smallD (Nd.node s (toRows xs) (decL ys))) (Tr.leaf (R.out [V.c (C.bool true)] [])) (Tr.chk (isRows xs2) (Tr.chk (isL ys2) (Tr.chk (lensT (Nd.node s2 (toRows xs2) (decL ys2))) (Tr.br (!smallD (Nd.node s2 (toRows xs2) (decL ys2))) (Tr.leaf (R.out [V.c (C.bool true)] [])) (Tr.chk (isRows xs) (Tr.chk (isL ys) (Tr.br (checkT (Nd.node s (toRows xs) (decL ys)) != 0) (Tr.leaf (R.out [V.c (C.bool true)] [])) (Tr.chk (isRows xs2) (Tr.chk (isL ys2) (Tr.br (checkT (Nd.node s2 (toRows xs2) (decL ys2)) != 0) (Tr.leaf (R.out [V.c (C.bool true)] [])) (Tr.chk (isRows xs) (Tr.chk (isL ys) (Tr.chk (isRows xs2) (Tr.chk (isL ys2) (Tr.chk (decide ((entL (decL ys)).length < 1000000000)) (Tr.chk (decide ((entL (decL ys2)).length < 1000000000)) (Tr.chk (isRows xs) (Tr.chk (isL ys) (Tr.chk (isCgs (chgs (chgP (Nd.node s (toRows xs) (decL ys)) (Nd.node s2 (toRows xs2) (decL ys2))))) (Tr.chk (decide ((chgs (chgP (Nd.node s (toRows xs) (decL ys)) (Nd.node s2 (toRows xs2) (decL ys2)))).length ≤ 9223372036854775807)) (Tr.chk (cgOk (toCgs (chgs (chgP (Nd.node s (toRows xs) (decL ys)) (Nd.node s2 (toRows xs2) (decL ys2)))))) (Tr.ls 0 (s12_0 s xs ys s2 xs2 ys2 (none) false (chgs (chgP (Nd.node s (toRows xs) (decL ys)) (Nd.node s2 (toRows xs2) (decL ys2)))) ((repP (Nd.node s (toRows xs) (decL ys)) (toCgs (chgs (chgP (Nd.node s (toRows xs) (decL ys)) (Nd.node s2 (toRows xs2) (decL ys2)))))).snd) (0) (0) (none) false (none) false (none) false (none) false ((repP (Nd.node s (toRows xs) (decL ys)) (toCgs (chgs (chgP (Nd.node s (toRows xs) (decL ys)) (Nd.node s2 (toRows xs2) (decL ys2)))))).fst.lab) (none) false (rows (repP (Nd.node s (toRows xs) (decL ys)) (toCgs (chgs (chgP (Nd.node s (toRows xs) (decL ys)) (Nd.node s2 (toRows xs2) (decL ys2)))))).fst.rows) (none) false (encL (repP (Nd.node s (toRows xs) (decL ys)) (toCgs (chgs (chgP (Nd.node s (toRows xs) (decL ys)) (Nd.node s2 (toRows xs2) (decL ys2)))))).fst.kids) ([])))))))))))))))))))))))))))) := by kernel_rfl
theorem t12e (s : List UInt8) (xs : List (List C)) (ys : List (List C)) (s2 : List UInt8) (xs2 : List (List C)) (ys2 : List (List C)) (xs5 : List (List C)) (i7 : Int) (n8 : Nat) (i9 : Int) (sh2 : List UInt8) (xsh2 : List (List C)) (xsh2_1 : List (List C)) (ys3 : List (List C)) : p12.fkx 0 (Ex.exit 0, [(2, V.ptr 0 0 0 0), (3, V.ptr 1 0 0 0), (5, V.c (C.sl 3 none false xs5)), (6, V.ptr 2 0 0 0), (7, V.c (C.int IntKind.i64 i7)), (8, V.buf 3 0 0 n8), (9, V.c (C.int IntKind.i64 i9)), (43, V.c (C.bool false))], [O.box [V.c (C.str s), V.c (C.sl 5 none false xs), V.c (C.sl 3 none false ys)], O.box [V.c (C.str s2), V.c (C.sl 5 none false xs2), V.c (C.sl 3 none false ys2)], O.box [V.c (C.str sh2), V.c (C.sl 5 none false xsh2), V.c (C.sl 3 none false xsh2_1)], O.mem 3 0 ys3]) = (Tr.chk (isRows xs2) (Tr.chk (isL ys2) (Tr.chk (isCgs (List.take n8 ys3)) (Tr.chk (decide ((List.take n8 ys3).length ≤ 9223372036854775807)) (Tr.chk (cgOk (toCgs (List.take n8 ys3))) (Tr.chk (isRows xsh2) (Tr.chk (isL xsh2_1) (Tr.chk (isRows xs2) (Tr.chk (isL ys2) (Tr.chk (lensT (Nd.node sh2 (toRows xsh2) (decL xsh2_1))) (Tr.br (sameT (Nd.node sh2 (toRows xsh2) (decL xsh2_1)) (Nd.node s2 (toRows xs2) (decL ys2))) (Tr.br (i7 == 0) (Tr.chk (isRows (rows (repP (Nd.node s2 (toRows xs2) (decL ys2)) (toCgs (List.take n8 ys3))).fst.rows)) (Tr.chk (isL (encL (repP (Nd.node s2 (toRows xs2) (decL ys2)) (toCgs (List.take n8 ys3))).fst.kids)) (Tr.chk (isRows xs) (Tr.chk (isL ys) (Tr.chk (lensT (Nd.node (repP (Nd.node s2 (toRows xs2) (decL ys2)) (toCgs (List.take n8 ys3))).fst.lab (toRows (rows (repP (Nd.node s2 (toRows xs2) (decL ys2)) (toCgs (List.take n8 ys3))).fst.rows)) (decL (encL (repP (Nd.node s2 (toRows xs2) (decL ys2)) (toCgs (List.take n8 ys3))).fst.kids)))) (Tr.br (sameT (Nd.node (repP (Nd.node s2 (toRows xs2) (decL ys2)) (toCgs (List.take n8 ys3))).fst.lab (toRows (rows (repP (Nd.node s2 (toRows xs2) (decL ys2)) (toCgs (List.take n8 ys3))).fst.rows)) (decL (encL (repP (Nd.node s2 (toRows xs2) (decL ys2)) (toCgs (List.take n8 ys3))).fst.kids))) (Nd.node s (toRows xs) (decL ys))) (Tr.br ((repP (Nd.node s2 (toRows xs2) (decL ys2)) (toCgs (List.take n8 ys3))).snd == 0) (Tr.leaf (R.out [V.c (C.bool true)] [])) (Tr.leaf (R.out [V.c (C.bool false)] []))) (Tr.leaf (R.out [V.c (C.bool false)] [])))))))) (Tr.leaf (R.out [V.c (C.bool false)] []))) (Tr.leaf (R.out [V.c (C.bool false)] []))))))))))))) := by kernel_rfl
end Go.Proofs.YtgaabjmbnomimaaDoor
namespace Go.Proofs.YtgaabjmbnomimaaDoor
open Go Go.Ev
mutual
theorem leftT_ent : ∀ (t : Nd) (n d : Int), 0 ≤ n → 0 < leftT t n d → ((entT t).length : Int) ≤ n - leftT t n d
  | .node lab rs ks, n, d, h0, h => by
    rw [leftT] at h ⊢
    split at h
    · omega
    · rename_i hc
      rw [if_neg hc]
      have := leftL_ent ks (n - 1 - ((lab.length / 50 : Nat) : Int)) (d - 1) (by omega) h
      have hl := entT_node [] lab rs ks
      rw [pre_nil] at hl
      rw [hl, List.length_append, pre_length]
      have ho : (ownE ([] ++ lab) rs).length ≤ 1 := by unfold ownE; split <;> simp
      omega
theorem leftL_ent : ∀ (l : List Nd) (n d : Int), 0 ≤ n → 0 < leftL l n d → ((entL l).length : Int) ≤ n - leftL l n d
  | [], n, d, h0, h => by rw [leftL, entL]; simp
  | t :: r, n, d, h0, h => by
    rw [leftL] at h ⊢
    split at h
    · rename_i hn
      rw [if_pos hn]
      have hle := leftT_le t n d h0
      have hpos : 0 < leftT t n d := by
        have := (leftL_le r (leftT t n d) d hle.1).2; omega
      have h1 := leftT_ent t n d h0 hpos
      have h2 := leftL_ent r (leftT t n d) d hle.1 h
      rw [entL, List.length_append]
      omega
    · omega
end
theorem small_ent {t : Nd} (h : smallD t = true) : (entL t.kids).length < 1000000000 := by
  simp only [smallD, decide_eq_true_eq] at h
  have h1 := leftT_ent t 200 60 (by omega) h
  have h2 : (entL t.kids).length ≤ (entT t).length := by rw [entT_eq]; simp
  omega
theorem chgP_len {a b : Nd} (ha : (entL a.kids).length < 1000000000) (hb : (entL b.kids).length < 1000000000) : (chgP a b).length < 4294967296 := by
  unfold chgP
  split
  · have h1 : (chgT a b).length ≤ (S2 a b).length := List.length_filter_le _ _
    have h2 : (S2 a b).length ≤ (entP a).length + (entP b).length + 0 + 1 := sidesF_len _ _ _ _
    have := entP_len a ha; have := entP_len b hb
    omega
  · simp
end Go.Proofs.YtgaabjmbnomimaaDoor
namespace Go.Proofs.YtgaabjmbnomimaaDoor
open Go Go.Ev
/-- What changes of a list must be to be replayed. -/
structure ChOk (t : Nd) (X : List Sd) : Prop where
  rise : X.Pairwise fun s u => Op.bytesLess s.p u.p = true
  path : ∀ s ∈ X, s.p ≠ [] ∧ s.p.length ≤ 24
  had : ∀ s ∈ X, s.a = getR t s.p
  ra : ∀ s ∈ X, right s.a = true
  rb : ∀ s ∈ X, right s.b = true
  ne : ∀ s ∈ X, s.a ≠ s.b
theorem mayF_of : ∀ {X : List Sd} {last : List UInt8}, (X.Pairwise fun s u => Op.bytesLess s.p u.p = true) → (∀ s ∈ X, s.p ≠ [] ∧ s.p.length ≤ 24) → (∀ s ∈ X, right s.a = true) → (∀ s ∈ X, right s.b = true) → (∀ s ∈ X, s.a ≠ s.b) → (∀ s ∈ X, Op.bytesLess last s.p = true) → mayF last (X.map cgS) = true
  | [], _, _, _, _, _, _, _ => rfl
  | s :: X, last, h1, h2, h3, h4, h5, h6 => by
    rw [List.pairwise_cons] at h1
    rw [List.map_cons, mayF]
    have hp := isPath_iff.2 (h2 s (by simp))
    have e : (isPath (cgS s).p && Op.bytesLess last (cgS s).p && right (cgS s).a && right (cgS s).b && !decide ((cgS s).a = (cgS s).b)) = true := by
      show (isPath s.p && Op.bytesLess last s.p && right s.a && right s.b && !decide (s.a = s.b)) = true
      rw [hp, h6 s (by simp), h3 s (by simp), h4 s (by simp)]
      simpa using h5 s (by simp)
    rw [e, Bool.true_and]
    exact mayF_of h1.2 (fun a ha => h2 a (by simp [ha])) (fun a ha => h3 a (by simp [ha])) (fun a ha => h4 a (by simp [ha])) (fun a ha => h5 a (by simp [ha])) h1.1
theorem repF_of : ∀ {X : List Sd} {t : Nd}, okR t = true → (∀ s ∈ X, s.p ≠ [] ∧ s.p.length ≤ 24) → (∀ s ∈ X, right s.b = true) → repF t (X.map cgS) = repT t X
  | [], _, _, _, _ => rfl
  | s :: X, t, h, h1, h2 => by
    obtain ⟨p1, p2⟩ := h1 s (by simp)
    have hb := h2 s (by simp)
    have e : putP t (cgS s).p (cgS s).b = (putR t s.p s.b, 0) := by
      show putP t s.p s.b = _
      rw [putP, if_pos ⟨h, isPath_iff.2 ⟨p1, p2⟩, hb⟩]
    have := repF_of (X := X) (putR_ok h p1 p2 hb).1 (fun a ha => h1 a (by simp [ha])) (fun a ha => h2 a (by simp [ha]))
    unfold repF repT at this ⊢
    rw [List.map_cons, List.foldl_cons, List.foldl_cons, e]
    exact this
theorem repP_of {t : Nd} {X : List Sd} (h : okR t = true) (k : ChOk t X) : repP t (X.map cgS) = (repT t X, 0) := by
  have h1 : mayF [] (X.map cgS) = true := mayF_of k.rise k.path k.ra k.rb k.ne fun s hs => by
    have := (k.path s hs).1
    cases hp : s.p with
    | nil => exact absurd hp this
    | cons b q => rfl
  have h2 : (X.map cgS).any (otherB t) = false := by
    rw [List.any_eq_false]
    intro c hc
    obtain ⟨s, hs, rfl⟩ := List.mem_map.1 hc
    show ¬ (!decide (getR t s.p = s.a)) = true
    rw [← k.had s hs]; simp
  rw [repP, if_pos ⟨h, h1⟩, if_neg (by rw [h2]; simp), repF_of h k.path k.rb]
theorem getR_rt (m : Nd) (q : List UInt8) : right (getR m q) = true := by rw [getR_P]; exact look_right (gd_entP m) _
theorem ch_fwd (a b : Nd) : ChOk a (chgT a b) := ⟨chg_rise a b, fun s hs => ⟨(chg_mem hs).2.2.2.1, (chg_mem hs).2.2.2.2⟩, fun s hs => (chg_mem hs).1, fun s hs => by rw [(chg_mem hs).1]; exact getR_rt _ _, fun s hs => by rw [(chg_mem hs).2.1]; exact getR_rt _ _, fun s hs => (chg_mem hs).2.2.1⟩
theorem ch_bak (a b : Nd) : ChOk b ((chgT a b).map bakS) := by
  have h := ch_fwd a b
  have go : ∀ {P : Sd → Prop}, (∀ s ∈ chgT a b, P (bakS s)) → ∀ s ∈ (chgT a b).map bakS, P s := fun {P} hp s hs => by
    obtain ⟨u, hu, rfl⟩ := List.mem_map.1 hs
    exact hp u hu
  exact ⟨by rw [List.pairwise_map]; exact h.rise, go h.path, go fun s hs => (chg_mem hs).2.1, go h.rb, go h.ra, go fun s hs e => h.ne s hs e.symm⟩
theorem cgOk_of (X : List Sd) : cgOk (X.map cgS) = true := by
  rw [cgOk, List.all_eq_true]
  intro c hc
  obtain ⟨s, _, rfl⟩ := List.mem_map.1 hc
  refine decide_eq_true (show rcN s.b ≠ some true ∨ s.b = [] from ?_)
  cases s.b with
  | nil => exact .inr rfl
  | cons a l => exact .inl (by simp [rcN])
theorem hct12 : (ctOf [(17, s17n), (28, s28), (41, s41), (42, s42), (46, s46), (47, s47)]).ok E := by
  refine ctOf_cons s17n_ok (ctOf_cons s28_ok (ctOf_cons s41_ok (ctOf_cons s42_ok (ctOf_cons s46_ok (ctOf_cons ?_ ctOf_nil)))))
  intro a h cs vals h' he hc
  unfold s47 at he
  split at he <;> simp only [Option.some.injEq, Prod.mk.injEq, reduceCtorEq] at he
  rename_i s xs ys nl tt zs
  obtain ⟨rfl, rfl, rfl⟩ := he
  simp only [allT, Bool.and_true, Bool.and_eq_true, decide_eq_true_eq] at hc
  obtain ⟨h1, h2, h3, h4, h5⟩ := hc
  obtain ⟨rs, rfl⟩ := rows_ex h1
  obtain ⟨ks, rfl⟩ := isL_ex h2
  obtain ⟨l, rfl⟩ := cgs_ex h3
  rw [cgs_length] at h4
  simp only [toRows_rows, decL_enc, toCgs_cgs] at *
  refine f47 (.node s rs ks) nl tt l h4 fun c hc => ?_
  have := List.all_eq_true.1 h5 c hc
  simp only [decide_eq_true_eq] at this
  exact this.imp id fun h => by rw [h]; rfl
/-- DeltaBack. -/
theorem f12 (a b : Nd) (ha : lensT a = true) (hb : lensT b = true) : call E 12 [VT a, VT b] [] = some ([V.b true], []) := by
  refine call_of (E := E) (sh := sh) (ct := ctOf [(17, s17n), (28, s28), (41, s41), (42, s42), (46, s46), (47, s47)]) (na := 2) (m := 0) hct12 rfl rfl rfl rfl rfl rfl ?_
  show p12.fd (p12.ft [VT a, VT b] []) = some (.out _ _)
  rw [show p12.ft [VT a, VT b] [] = _ from t12 _ _ _ _ _ _]
  simp only [toRows_rows, Nd.eta, isRows_rows, isL_enc, decL_enc, ha, hb, fd_br, fd_chk', fd_leaf, if_true, checkT_ne, Bool.not_eq_true']
  by_cases s1 : smallD a = false
  · rw [if_pos s1]
  rw [if_neg s1]
  by_cases s2 : smallD b = false
  · rw [if_pos s2]
  rw [if_neg s2]
  by_cases o1 : okR a = false
  · rw [if_pos o1]
  rw [if_neg o1]
  by_cases o2 : okR b = false
  · rw [if_pos o2]
  rw [if_neg o2]
  rw [Bool.not_eq_false] at s1 s2 o1 o2
  have la := small_ent s1
  have lb := small_ent s2
  have hX := chgP_len la lb
  have h12 : okR a = true ∧ okR b = true := ⟨o1, o2⟩
  rw [chgP, if_pos h12] at hX
  have e1 : repP a ((chgT a b).map cgS) = (b, 0) := by rw [repP_of o1 (ch_fwd a b), rep_chg o1 o2]
  have e2 : repP b (((chgT a b).map bakS).map cgS) = (a, 0) := by rw [repP_of o2 (ch_bak a b), rep_bak o1 o2]
  have hXl : ((chgT a b).map cgS).length ≤ 9223372036854775807 := by rw [List.length_map]; omega
  simp only [chgP, if_pos h12, la, lb, decide_true, if_true, chgs_cgs, isCgs_cgs, toCgs_cgs, cgs_length, hXl, cgOk_of, e1]
  generalize hXe : chgT a b = X at *
  refine fd_post hct12 (by kernel_rfl) rfl (list_post (p := p12) hct12 (b := b12_0) X.length
    (fun k (_ : Unit) => s12_0 a.lab (rows a.rows) (encL a.kids) b.lab (rows b.rows) (encL b.kids) none false (cgs (X.map cgS)) 0 k k none false none false none false none false b.lab none false (rows b.rows) none false (encL b.kids) (cgs (((X.take k).map bakS).map cgS)))
    (fun _ _ => True) _ ?_ ?_ 0 (Nat.zero_le _) () trivial)
  · intro k _ hk _
    refine .inl ⟨(), trivial, ?_⟩
    have hk2 : k < (X.map cgS).length := by rw [List.length_map]; exact hk
    have hg : (X.map cgS)[k] = cgS X[k] := List.getElem_map _
    have ht : List.take k (cgs (((X.take k).map bakS).map cgS)) = cgs (((X.take k).map bakS).map cgS) := List.take_of_length_le (by simp; omega)
    have hs : cgs (((X.take k).map bakS).map cgS) ++ [[Sk.str.mk (((cgS X[k]).enc).headD C.pnil), (Sk.slx 5).mk (((cgS X[k]).enc).tail.tail.headD C.pnil), (Sk.slx 5).mk (((cgS X[k]).enc).tail.headD C.pnil)]] = cgs (((X.take (k + 1)).map bakS).map cgS) := by
      rw [List.take_succ_eq_append_getElem hk]
      simp only [cgs, List.map_append, List.map_cons, List.map_nil]
      rfl
    rw [t12_0]
    simp only [ld_br, ld_chk', ld_leaf, fd_br, fd_chk', fd_leaf, decide_true, decide_eq_true_eq, if_true, Int.toNat_natCast, Int.natCast_nonneg, Int.ofNat_lt, Int.ofNat_le, Bool.false_eq_true, if_false, bne_iff_ne, beq_iff_eq, ne_eq, not_true_eq_false, not_false_eq_true, Bool.not_eq_true', decide_eq_false_iff_not, reduceCtorEq, rows_length, pcs_length, er_ok, er_ok', ep_ok, ep_ok', dr_er, dp_ep, isRows_rows, isPcs_pcs, toRows_rows, toPcs_pcs, rows_take, rows_drop, pcs_take, pcs_drop, rows_append, pcs_append, ints_length, isInts_ints, toInts_ints, ei_i, ei_ok, mk_headD, ints_take, ints_drop, ints_append, ints_snoc, ints_snoc', List.take_length, Nat.zero_add, Nat.le_refl, er_a, er_b, er_k, er_n, er_s, er_v, ep_a, ep_b, ep_hk, ep_hn, ep_hs, ep_wk, ep_wn, ep_ws, cgs_length, List.length_map, hk, cgs_getD hk2, hg, Cg.ok, ht, hs, show k + 1 < 4294967296 by omega, wrap_succ (show k < 9223372036854775807 by omega)]
  · intro _ _
    refine ⟨x12_0x0 a.lab (rows a.rows) (encL a.kids) b.lab (rows b.rows) (encL b.kids) none false (cgs (X.map cgS)) 0 X.length X.length none false none false none false none false b.lab none false (rows b.rows) none false (encL b.kids) (cgs (((X.take X.length).map bakS).map cgS)), by simp, ?_, ?_⟩
    · rw [t12e, List.take_length]
      have ht : List.take X.length (cgs ((X.map bakS).map cgS)) = cgs ((X.map bakS).map cgS) := List.take_of_length_le (by simp)
      have hl : ((X.map bakS).map cgS).length ≤ 9223372036854775807 := by rw [List.length_map, List.length_map]; omega
      simp only [nd_ok, nd_lab, nd_rows, nd_kids, encL_length, isL_enc, decL_enc, wrap_hd, hd_pos, ld_br, ld_chk', ld_leaf, fd_br, fd_chk', fd_leaf, decide_true, decide_eq_true_eq, if_true, Int.toNat_natCast, Int.natCast_nonneg, Int.ofNat_lt, Int.ofNat_le, Bool.false_eq_true, if_false, bne_iff_ne, beq_iff_eq, ne_eq, not_true_eq_false, not_false_eq_true, Bool.not_eq_true', decide_eq_false_iff_not, reduceCtorEq, rows_length, pcs_length, er_ok, er_ok', ep_ok, ep_ok', dr_er, dp_ep, isRows_rows, isPcs_pcs, toRows_rows, toPcs_pcs, rows_take, rows_drop, pcs_take, pcs_drop, rows_append, pcs_append, ints_length, isInts_ints, toInts_ints, ei_i, ei_ok, mk_headD, ints_take, ints_drop, ints_append, ints_snoc, ints_snoc', List.take_length, Nat.zero_add, Nat.le_refl, er_a, er_b, er_k, er_n, er_s, er_v, ep_a, ep_b, ep_hk, ep_hn, ep_hs, ep_wk, ep_wn, ep_ws, Nd.eta, ht, isCgs_cgs, toCgs_cgs, cgs_length, hl, cgOk_of, ha, hb, e2, sameT_refl]
    · rw [t12_0]
      simp only [ld_br, ld_chk', ld_leaf, fd_br, fd_chk', fd_leaf, decide_true, decide_eq_true_eq, if_true, Int.toNat_natCast, Int.natCast_nonneg, Int.ofNat_lt, Int.ofNat_le, Bool.false_eq_true, if_false, bne_iff_ne, beq_iff_eq, ne_eq, not_true_eq_false, not_false_eq_true, Bool.not_eq_true', decide_eq_false_iff_not, reduceCtorEq, rows_length, pcs_length, er_ok, er_ok', ep_ok, ep_ok', dr_er, dp_ep, isRows_rows, isPcs_pcs, toRows_rows, toPcs_pcs, rows_take, rows_drop, pcs_take, pcs_drop, rows_append, pcs_append, ints_length, isInts_ints, toInts_ints, ei_i, ei_ok, mk_headD, ints_take, ints_drop, ints_append, ints_snoc, ints_snoc', List.take_length, Nat.zero_add, Nat.le_refl, er_a, er_b, er_k, er_n, er_s, er_v, ep_a, ep_b, ep_hk, ep_hn, ep_hs, ep_wk, ep_wn, ep_ws, cgs_length, List.length_map, Int.lt_irrefl]
end Go.Proofs.YtgaabjmbnomimaaDoor
namespace Go.Proofs.YtgaabjmbnomimaaDoor
open Go Go.Ev
theorem l12 (a b : Lt) : call E 12 [VT a.t, VT b.t] [] = some ([V.b true], []) := f12 a.t b.t a.ok b.ok
end Go.Proofs.YtgaabjmbnomimaaDoor
