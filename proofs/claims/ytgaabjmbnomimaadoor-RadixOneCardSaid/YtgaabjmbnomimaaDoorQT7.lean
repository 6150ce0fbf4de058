/-
  Trees, written by a program: what is the same: rows, tries, entries, texts; What is the same: rows, tries, entries, texts; Chapter 11 (delta), trees, written by a program: what comes of a path; right trees; sides; Chapter 11 (delta), trees, written by a program: what sides hands over; Chapter 11, plain: what sides hand over, what comes of them; Chapter 11, plain: merges, changes, and what follows of them; Chapter 11 (delta), trees, written by a program: Merge, Changes; Chapter 11 (delta), trees, written by a program: what is small; Chapter 11 (delta): small trees have few entries; changes as c.
-/
import Derived.Test.YtgaabjmbnomimaaDoorQT1
set_option linter.all false
namespace Go.Proofs.YtgaabjmbnomimaaDoor
open Go Go.Ev
-- cse
def s26 : CSpec := fun a h => match a, h with
  | [.c (.sl 5 nl tt xs), .c (.sl 5 nl2 t2 ys)], [] => some ([isRows xs, isRows ys, decide (xs.length ≤ 9223372036854775807)], [V.b (decide (toRows xs = toRows ys))], [])
  | _, _ => none
mutual
def sameT : Nd → Nd → Bool
  | .node a r k, .node b s l => decide (a = b) && decide (r = s) && sameL k l
def sameL : List Nd → List Nd → Bool
  | [], [] => true
  | x :: p, y :: q => sameT x y && sameL p q
  | _, _ => false
end
variable (dd : Nat)
def s17 : CSpec := fun a h => match a, h with
  | [.agg [.c (.str s), .c (.sl 5 rn rt xs), .c (.sl 3 kn kt ys)], .agg [.c (.str s2), .c (.sl 5 rn2 rt2 xs2), .c (.sl 3 kn2 kt2 ys2)]], [] => some ([isRows xs, isL ys, isRows xs2, isL ys2, decide (depL (decL ys) < dd), lensT (.node s (toRows xs) (decL ys))], [V.b (sameT (.node s (toRows xs) (decL ys)) (.node s2 (toRows xs2) (decL ys2)))], [])
  | _, _ => none
noncomputable abbrev p17 : Par := par E sh (ctOf [(26, s26), (17, s17 dd)]) 17 2 0
abbrev s17_0 (s : Bys) (rn : OBo) (rt : Bool) (xs : LLC) (kn : OBo) (kt : Bool) (ys : LLC) (s2 : Bys) (rn2 : OBo) (rt2 : Bool) (xs2 : LLC) (kn2 : OBo) (kt2 : Bool) (ys2 : LLC) (i5 : Int) : Fr × Hp := ([(2, V.ptr 0 0 0 0), (3, V.ptr 1 0 0 0), (5, V.c (C.int IntKind.i64 i5))], [O.box [V.c (C.str s), V.c (C.sl 5 rn rt xs), V.c (C.sl 3 kn kt ys)], O.box [V.c (C.str s2), V.c (C.sl 5 rn2 rt2 xs2), V.c (C.sl 3 kn2 kt2 ys2)]])
noncomputable abbrev b17_0 : Code := loopAt (codeOf E (17)) 0
abbrev x17_0x0 (s : Bys) (rn : OBo) (rt : Bool) (xs : LLC) (kn : OBo) (kt : Bool) (ys : LLC) (s2 : Bys) (rn2 : OBo) (rt2 : Bool) (xs2 : LLC) (kn2 : OBo) (kt2 : Bool) (ys2 : LLC) : Ex × Fr × Hp := (Ex.ret, [(4, V.c (C.bool false))], [O.box [V.c (C.str s), V.c (C.sl 5 rn rt xs), V.c (C.sl 3 kn kt ys)], O.box [V.c (C.str s2), V.c (C.sl 5 rn2 rt2 xs2), V.c (C.sl 3 kn2 kt2 ys2)]])
abbrev x17_0x1 (s : Bys) (rn : OBo) (rt : Bool) (xs : LLC) (kn : OBo) (kt : Bool) (ys : LLC) (s2 : Bys) (rn2 : OBo) (rt2 : Bool) (xs2 : LLC) (kn2 : OBo) (kt2 : Bool) (ys2 : LLC) (i5 : Int) : Ex × Fr × Hp := (Ex.exit 0, [(2, V.ptr 0 0 0 0), (3, V.ptr 1 0 0 0), (5, V.c (C.int IntKind.i64 i5)), (32, V.c (C.bool false))], [O.box [V.c (C.str s), V.c (C.sl 5 rn rt xs), V.c (C.sl 3 kn kt ys)], O.box [V.c (C.str s2), V.c (C.sl 5 rn2 rt2 xs2), V.c (C.sl 3 kn2 kt2 ys2)]])
theorem t17_0 (s : Bys) (rn : OBo) (rt : Bool) (xs : LLC) (kn : OBo) (kt : Bool) (ys : LLC) (s2 : Bys) (rn2 : OBo) (rt2 : Bool) (xs2 : LLC) (kn2 : OBo) (kt2 : Bool) (ys2 : LLC) (i5 : Int) : (p17 dd).lts b17_0 (s17_0 s rn rt xs kn kt ys s2 rn2 rt2 xs2 kn2 kt2 ys2 i5) = (Tr.br (decide (i5 < (↑ys.length : Int))) (Tr.chk (decide (0 ≤ i5)) (Tr.chk true (Tr.chk (decide (i5.toNat < ys.length)) (Tr.chk (shOk [Sk.str, Sk.sl 5, Sk.sl 3] (ys.getD i5.toNat [])) (Tr.chk (decide (0 ≤ i5)) (Tr.chk true (Tr.chk (decide (i5.toNat < ys2.length)) (Tr.chk (shOk [Sk.str, Sk.sl 5, Sk.sl 3] (ys2.getD i5.toNat [])) (Tr.chk (isRows ((ys.getD i5.toNat []).tail.headD C.pnil).xs) (Tr.chk (isL ((ys.getD i5.toNat []).tail.tail.headD C.pnil).xs) (Tr.chk (isRows ((ys2.getD i5.toNat []).tail.headD C.pnil).xs) (Tr.chk (isL ((ys2.getD i5.toNat []).tail.tail.headD C.pnil).xs) (Tr.chk (decide (depL (decL ((ys.getD i5.toNat []).tail.tail.headD C.pnil).xs) < dd)) (Tr.chk (lensT (Nd.node ((ys.getD i5.toNat []).headD C.pnil).st (toRows ((ys.getD i5.toNat []).tail.headD C.pnil).xs) (decL ((ys.getD i5.toNat []).tail.tail.headD C.pnil).xs))) (Tr.br (!sameT (Nd.node ((ys.getD i5.toNat []).headD C.pnil).st (toRows ((ys.getD i5.toNat []).tail.headD C.pnil).xs) (decL ((ys.getD i5.toNat []).tail.tail.headD C.pnil).xs)) (Nd.node ((ys2.getD i5.toNat []).headD C.pnil).st (toRows ((ys2.getD i5.toNat []).tail.headD C.pnil).xs) (decL ((ys2.getD i5.toNat []).tail.tail.headD C.pnil).xs))) (Tr.leaf (R.x (x17_0x0 s rn rt xs kn kt ys s2 rn2 rt2 xs2 kn2 kt2 ys2))) (Tr.leaf (R.s (s17_0 s rn rt xs kn kt ys s2 rn2 rt2 xs2 kn2 kt2 ys2 (IntKind.i64.wrap (i5 + 1)))))))))))))))))))) (Tr.leaf (R.x (x17_0x1 s rn rt xs kn kt ys s2 rn2 rt2 xs2 kn2 kt2 ys2 i5)))) := by kernel_rfl
theorem k17_0x0 (dd : Nat) (s : Bys) (rn : OBo) (rt : Bool) (xs : LLC) (kn : OBo) (kt : Bool) (ys : LLC) (s2 : Bys) (rn2 : OBo) (rt2 : Bool) (xs2 : LLC) (kn2 : OBo) (kt2 : Bool) (ys2 : LLC) : (p17 dd).fkx 0 (x17_0x0 s rn rt xs kn kt ys s2 rn2 rt2 xs2 kn2 kt2 ys2) = (Tr.leaf (R.out [V.c (C.bool false)] [])) := by kernel_rfl
theorem k17_0x1 (dd : Nat) (s : Bys) (rn : OBo) (rt : Bool) (xs : LLC) (kn : OBo) (kt : Bool) (ys : LLC) (s2 : Bys) (rn2 : OBo) (rt2 : Bool) (xs2 : LLC) (kn2 : OBo) (kt2 : Bool) (ys2 : LLC) (i5 : Int) : (p17 dd).fkx 0 (x17_0x1 s rn rt xs kn kt ys s2 rn2 rt2 xs2 kn2 kt2 ys2 i5) = (Tr.leaf (R.out [V.c (C.bool true)] [])) := by kernel_rfl
theorem t17 (s : Bys) (rn : OBo) (rt : Bool) (xs : LLC) (kn : OBo) (kt : Bool) (ys : LLC) (s2 : Bys) (rn2 : OBo) (rt2 : Bool) (xs2 : LLC) (kn2 : OBo) (kt2 : Bool) (ys2 : LLC) : (p17 dd).ft ([V.agg [V.c (C.str s), V.c (C.sl 5 rn rt xs), V.c (C.sl 3 kn kt ys)], V.agg [V.c (C.str s2), V.c (C.sl 5 rn2 rt2 xs2), V.c (C.sl 3 kn2 kt2 ys2)]]) ([]) = (Tr.br (!s == s2) (Tr.leaf (R.out [V.c (C.bool false)] [])) (Tr.chk (isRows xs) (Tr.chk (isRows xs2) (Tr.chk (decide (xs.length ≤ 9223372036854775807)) (Tr.br (!decide (toRows xs = toRows xs2)) (Tr.leaf (R.out [V.c (C.bool false)] [])) (Tr.br ((↑ys.length : Int) != (↑ys2.length : Int)) (Tr.leaf (R.out [V.c (C.bool false)] [])) (Tr.ls 0 (s17_0 s rn rt xs kn kt ys s2 rn2 rt2 xs2 kn2 kt2 ys2 (0))))))))) := by kernel_rfl
end Go.Proofs.YtgaabjmbnomimaaDoor
namespace Go.Proofs.YtgaabjmbnomimaaDoor
open Go Go.Ev
theorem s26_ok : CSpecOk E 26 s26 := by
  intro a h cs vals h' he hc
  unfold s26 at he
  split at he <;> simp only [Option.some.injEq, Prod.mk.injEq, reduceCtorEq] at he
  rename_i nl tt xs nl2 t2 ys
  obtain ⟨rfl, rfl, rfl⟩ := he
  simp only [allT, Bool.and_true, Bool.and_eq_true, decide_eq_true_eq] at hc
  obtain ⟨h1, h2, h3⟩ := hc
  obtain ⟨l, rfl⟩ := rows_ex h1
  obtain ⟨m, rfl⟩ := rows_ex h2
  simp only [toRows_rows, rows_length] at *
  exact f26 l m nl tt nl2 t2 h3
def s98 : CSpec := fun a h => match a, h with
  | [.c (.sl 5 nl tt xs), .c (.sl 5 nl2 t2 ys)], [] => some ([isRows xs, isRows ys, decide (xs.length ≤ 9223372036854775807)], [V.b (decide (toRows xs = toRows ys))], [])
  | _, _ => none
mutual
theorem sameT_iff : ∀ (a b : Nd), sameT a b = true ↔ a = b
  | .node a r k, .node b s l => by
    rw [sameT]
    simp only [Bool.and_eq_true, decide_eq_true_eq, sameL_iff k l, Nd.node.injEq, and_assoc]
theorem sameL_iff : ∀ (a b : List Nd), sameL a b = true ↔ a = b
  | [], [] => by simp [sameL]
  | x :: p, y :: q => by simp only [sameL, Bool.and_eq_true, sameT_iff x y, sameL_iff p q, List.cons.injEq]
  | [], _ :: _ => by simp [sameL]
  | _ :: _, [] => by simp [sameL]
end
theorem sameT_refl (a : Nd) : sameT a a = true := (sameT_iff a a).2 rfl
theorem sameT_dec (a b : Nd) : sameT a b = false ↔ a ≠ b := by rw [← Bool.not_eq_true, sameT_iff]
theorem sameL_ne {a b : List Nd} (h : a ≠ b) : sameL a b = false := by rw [← Bool.not_eq_true, sameL_iff]; exact h
theorem f17 (dd : Nat) (ih : CSpecOk E 17 (s17 dd)) (t t2 : Nd) (rn : OBo) (rt : Bool) (kn : OBo) (kt : Bool) (rn2 : OBo) (rt2 : Bool) (kn2 : OBo) (kt2 : Bool) (hd : depL t.kids < dd + 1) (hl : lensT t = true) :
    call E 17 [.agg [.c (.str t.lab), .c (.sl 5 rn rt (rows t.rows)), .c (.sl 3 kn kt (encL t.kids))], .agg [.c (.str t2.lab), .c (.sl 5 rn2 rt2 (rows t2.rows)), .c (.sl 3 kn2 kt2 (encL t2.kids))]] [] = some ([V.b (sameT t t2)], []) := by
  have hct : (ctOf [(26, s26), (17, s17 dd)]).ok E := ctOf_cons s26_ok (ctOf_cons ih ctOf_nil)
  refine call_of (E := E) (sh := sh) (ct := ctOf [(26, s26), (17, s17 dd)]) (na := 2) (m := 0) hct rfl rfl rfl rfl rfl rfl ?_
  show (p17 dd).fd ((p17 dd).ft _ _) = _
  obtain ⟨s, rs, ks⟩ := t
  obtain ⟨s2, rs2, ks2⟩ := t2
  rw [lensT] at hl
  simp only [Nd.lab_node, Nd.rows_node, Nd.kids_node, Bool.and_eq_true, decide_eq_true_eq] at hd hl ⊢
  obtain ⟨⟨⟨l1, l2⟩, l3⟩, l4⟩ := hl
  rw [t17, sameT]
  have e1 : (!s == s2) = !decide (s = s2) := by rw [beqL]
  simp only [nd_ok, nd_lab, nd_rows, nd_kids, encL_length, isL_enc, decL_enc, wrap_hd, hd_pos, ld_br, ld_chk', ld_leaf, fd_br, fd_chk', fd_leaf, decide_true, decide_eq_true_eq, if_true, Int.toNat_natCast, Int.natCast_nonneg, Int.ofNat_lt, Int.ofNat_le, Bool.false_eq_true, if_false, bne_iff_ne, beq_iff_eq, ne_eq, not_true_eq_false, not_false_eq_true, Bool.not_eq_true', decide_eq_false_iff_not, reduceCtorEq, rows_length, pcs_length, er_ok, er_ok', ep_ok, ep_ok', dr_er, dp_ep, isRows_rows, isPcs_pcs, toRows_rows, toPcs_pcs, rows_take, rows_drop, pcs_take, pcs_drop, rows_append, pcs_append, ints_length, isInts_ints, toInts_ints, ei_i, ei_ok, mk_headD, ints_take, ints_drop, ints_append, ints_snoc, ints_snoc', List.take_length, Nat.zero_add, Nat.le_refl, er_a, er_b, er_k, er_n, er_s, er_v, ep_a, ep_b, ep_hk, ep_hn, ep_hs, ep_wk, ep_wn, ep_ws, e1, l2]
  by_cases c1 : s = s2
  case neg => simp [c1]
  by_cases c2 : rs = rs2
  case neg => simp [c1, c2]
  by_cases c3 : ks.length = ks2.length
  case neg =>
    have : ks ≠ ks2 := fun e => c3 (by rw [e])
    rw [sameL_ne this]
    simp [c1, c2, show ¬ (ks.length : Int) = ks2.length by omega]
  subst c1; subst c2
  have c3' : (ks.length : Int) = ks2.length := by omega
  simp only [c3', decide_true, Bool.not_true, Bool.false_eq_true, if_false, Bool.true_and, not_true_eq_false]
  refine fd_post hct (by kernel_rfl) rfl (list_post (p := p17 dd) hct (b := b17_0) ks.length (fun k (_ : Unit) => s17_0 s rn rt (rows rs) kn kt (encL ks) s rn2 rt2 (rows rs) kn2 kt2 (encL ks2) k) (fun k _ => ks.take k = ks2.take k) _ ?_ ?_ 0 (Nat.zero_le _) () (by simp))
  · intro k _ hk hi
    have hm : k < ks2.length := by omega
    have hkid : depL ks[k].kids < dd := by have := depL_kid (List.getElem_mem hk); omega
    rw [t17_0]
    simp only [nd_ok, nd_lab, nd_rows, nd_kids, encL_length, isL_enc, decL_enc, wrap_hd, hd_pos, ld_br, ld_chk', ld_leaf, fd_br, fd_chk', fd_leaf, decide_true, decide_eq_true_eq, if_true, Int.toNat_natCast, Int.natCast_nonneg, Int.ofNat_lt, Int.ofNat_le, Bool.false_eq_true, if_false, bne_iff_ne, beq_iff_eq, ne_eq, not_true_eq_false, not_false_eq_true, Bool.not_eq_true', decide_eq_false_iff_not, reduceCtorEq, rows_length, pcs_length, er_ok, er_ok', ep_ok, ep_ok', dr_er, dp_ep, isRows_rows, isPcs_pcs, toRows_rows, toPcs_pcs, rows_take, rows_drop, pcs_take, pcs_drop, rows_append, pcs_append, ints_length, isInts_ints, toInts_ints, ei_i, ei_ok, mk_headD, ints_take, ints_drop, ints_append, ints_snoc, ints_snoc', List.take_length, Nat.zero_add, Nat.le_refl, er_a, er_b, er_k, er_n, er_s, er_v, ep_a, ep_b, ep_hk, ep_hn, ep_hs, ep_wk, ep_wn, ep_ws, hk, hm, encL_getD hk, encL_getD hm, nd_node, hkid, lensL_mem l4 (List.getElem_mem hk), wrap_succ (show k < 9223372036854775807 by omega)]
    by_cases he : ks[k] = ks2[k]
    · left
      refine ⟨(), take_ext hi hk hm he, ?_⟩
      rw [(sameT_iff _ _).2 he]; rfl
    · right
      refine ⟨x17_0x0 s rn rt (rows rs) kn kt (encL ks) s rn2 rt2 (rows rs) kn2 kt2 (encL ks2), by simp, ?_, by rw [(sameT_dec _ _).2 he]; rfl⟩
      rw [k17_0x0, fd_leaf, sameL_ne (fun e => he (by subst e; rfl))]
  · intro _ hi
    rw [t17_0]
    refine ⟨x17_0x1 s rn rt (rows rs) kn kt (encL ks) s rn2 rt2 (rows rs) kn2 kt2 (encL ks2) ks.length, by simp, ?_, by simp only [nd_ok, nd_lab, nd_rows, nd_kids, encL_length, isL_enc, decL_enc, wrap_hd, hd_pos, ld_br, ld_chk', ld_leaf, fd_br, fd_chk', fd_leaf, decide_true, decide_eq_true_eq, if_true, Int.toNat_natCast, Int.natCast_nonneg, Int.ofNat_lt, Int.ofNat_le, Bool.false_eq_true, if_false, bne_iff_ne, beq_iff_eq, ne_eq, not_true_eq_false, not_false_eq_true, Bool.not_eq_true', decide_eq_false_iff_not, reduceCtorEq, rows_length, pcs_length, er_ok, er_ok', ep_ok, ep_ok', dr_er, dp_ep, isRows_rows, isPcs_pcs, toRows_rows, toPcs_pcs, rows_take, rows_drop, pcs_take, pcs_drop, rows_append, pcs_append, ints_length, isInts_ints, toInts_ints, ei_i, ei_ok, mk_headD, ints_take, ints_drop, ints_append, ints_snoc, ints_snoc', List.take_length, Nat.zero_add, Nat.le_refl, er_a, er_b, er_k, er_n, er_s, er_v, ep_a, ep_b, ep_hk, ep_hn, ep_hs, ep_wk, ep_wn, ep_ws, Int.lt_irrefl]⟩
    rw [List.take_length, c3, List.take_length] at hi
    rw [k17_0x1, fd_leaf, (sameL_iff _ _).2 hi]
theorem s17_ok : ∀ d, CSpecOk E 17 (s17 d)
  | 0 => by
    intro a h cs vals h' he hc
    unfold s17 at he
    split at he <;> simp only [Option.some.injEq, Prod.mk.injEq, reduceCtorEq] at he
    obtain ⟨rfl, rfl, rfl⟩ := he
    simp [allT] at hc
  | d + 1 => by
    intro a h cs vals h' he hc
    unfold s17 at he
    split at he <;> simp only [Option.some.injEq, Prod.mk.injEq, reduceCtorEq] at he
    rename_i s rn rt xs kn kt ys s2 rn2 rt2 xs2 kn2 kt2 ys2
    obtain ⟨rfl, rfl, rfl⟩ := he
    simp only [allT, Bool.and_true, Bool.and_eq_true, decide_eq_true_eq] at hc
    obtain ⟨h1, h2, h3, h4, h5, h6⟩ := hc
    obtain ⟨rs, rfl⟩ := rows_ex h1
    obtain ⟨ks, rfl⟩ := isL_ex h2
    obtain ⟨rs2, rfl⟩ := rows_ex h3
    obtain ⟨ks2, rfl⟩ := isL_ex h4
    simp only [toRows_rows, decL_enc] at *
    exact f17 d (s17_ok d) (.node s rs ks) (.node s2 rs2 ks2) rn rt kn kt rn2 rt2 kn2 kt2 h5 h6
def s17n : CSpec := fun a h => match a, h with
  | [.agg [.c (.str s), .c (.sl 5 rn rt xs), .c (.sl 3 kn kt ys)], .agg [.c (.str s2), .c (.sl 5 rn2 rt2 xs2), .c (.sl 3 kn2 kt2 ys2)]], [] => some ([isRows xs, isL ys, isRows xs2, isL ys2, lensT (.node s (toRows xs) (decL ys))], [V.b (sameT (.node s (toRows xs) (decL ys)) (.node s2 (toRows xs2) (decL ys2)))], [])
  | _, _ => none
theorem s17n_ok : CSpecOk E 17 s17n := by
  intro a h cs vals h' he hc
  unfold s17n at he
  split at he <;> simp only [Option.some.injEq, Prod.mk.injEq, reduceCtorEq] at he
  rename_i s rn rt xs kn kt ys s2 rn2 rt2 xs2 kn2 kt2 ys2
  obtain ⟨rfl, rfl, rfl⟩ := he
  simp only [allT, Bool.and_true, Bool.and_eq_true, decide_eq_true_eq] at hc
  obtain ⟨h1, h2, h3, h4, h6⟩ := hc
  obtain ⟨rs, rfl⟩ := rows_ex h1
  obtain ⟨ks, rfl⟩ := isL_ex h2
  obtain ⟨rs2, rfl⟩ := rows_ex h3
  obtain ⟨ks2, rfl⟩ := isL_ex h4
  simp only [toRows_rows, decL_enc] at *
  exact f17 (depL ks) (s17_ok _) (.node s rs ks) (.node s2 rs2 ks2) rn rt kn kt rn2 rt2 kn2 kt2 (Nat.lt_succ_self _) h6
mutual
theorem okT_lens : ∀ (t : Nd) (n : Nat), n ≤ 24 → okT t n = true → lensT t = true
  | .node s rs ks, n, hn, h => by
    obtain ⟨g1, g2, g3, g4, g5⟩ := okT_iff.1 h
    simp only [Nd.lab_node, Nd.rows_node, Nd.kids_node] at g1 g2 g3 g4 g5
    have h1 := right_len4 g3
    have h2 := okL_len (okL_iff'.2 g5) (by omega)
    rw [lensT, kidsOk_lens ks _ (by omega) g5]
    simp only [Bool.and_true, Bool.and_eq_true, decide_eq_true_eq]
    omega
theorem kidsOk_lens : ∀ (l : List Nd) (n : Nat), n ≤ 24 → kidsOk l n → lensL l = true
  | [], _, _, _ => rfl
  | t :: r, n, hn, h => by
    rw [lensL, okT_lens t n hn (h.1 t (by simp)), kidsOk_lens r n hn (kidsOk_sub h (List.sublist_cons_self _ _))]; rfl
end
theorem okR_lens {t : Nd} (h : okR t = true) : lensT t = true := by
  obtain ⟨h1, h2, h3⟩ := okR_iff.1 h
  have h4 := okL_len (okL_iff'.2 h3) (by omega)
  rw [lensT_eq, h1, h2, kidsOk_lens _ 24 (Nat.le_refl _) h3]
  simp; omega
end Go.Proofs.YtgaabjmbnomimaaDoor
namespace Go.Proofs.YtgaabjmbnomimaaDoor
open Go Go.Ev
-- cse
end Go.Proofs.YtgaabjmbnomimaaDoor
namespace Go.Proofs.YtgaabjmbnomimaaDoor
open Go Go.Ev
-- cse
end Go.Proofs.YtgaabjmbnomimaaDoor
namespace Go.Proofs.YtgaabjmbnomimaaDoor
open Go Go.Ev
theorem bl_gt {p q : List UInt8} (h : Op.bytesLess q p = false) (k : q ≠ p) : Op.bytesLess p q = true := by
  cases c : Op.bytesLess p q with
  | true => rfl
  | false => exact absurd (bl_total _ _ h c) k
theorem look_in {l : List Ent} {e : Ent} (h : Rise l) (he : e ∈ l) : look l e.1 = e.2 := by
  induction l with
  | nil => cases he
  | cons a l ih =>
    rw [Rise, List.pairwise_cons] at h
    rw [look]
    rcases List.mem_cons.1 he with rfl | he
    · rw [if_pos rfl]
    · rw [if_neg (bl_ne (h.1 e he)), ih h.2 he]
theorem look_ex {l : List Ent} {q : List UInt8} (h : look l q ≠ []) : ∃ e ∈ l, e.1 = q := by
  induction l with
  | nil => exact absurd rfl h
  | cons a l ih =>
    rw [look] at h
    split at h
    · rename_i c; exact ⟨a, by simp, c⟩
    · obtain ⟨e, h1, h2⟩ := ih h; exact ⟨e, by simp [h1], h2⟩
theorem rise_ext : ∀ {x y : List Ent}, Rise x → Rise y → (∀ e ∈ x, e.2 ≠ []) → (∀ e ∈ y, e.2 ≠ []) → (∀ q, look x q = look y q) → x = y
  | [], [], _, _, _, _, _ => rfl
  | [], e :: l, _, hy, _, ny, h => by
    have := h e.1
    rw [look_in hy (by simp)] at this
    exact absurd this.symm (ny e (by simp))
  | e :: l, [], hx, _, nx, _, h => by
    have := h e.1
    rw [look_in hx (by simp)] at this
    exact absurd this (nx e (by simp))
  | e :: l, d :: m, hx, hy, nx, ny, h => by
    have hx' := hx; have hy' := hy
    rw [Rise, List.pairwise_cons] at hx' hy'
    have key : ∀ {e d : Ent} {l m : List Ent}, Rise (e :: l) → (∀ a ∈ m, Op.bytesLess d.1 a.1 = true) → e.2 ≠ [] → look (e :: l) e.1 = look (d :: m) e.1 → Op.bytesLess e.1 d.1 = false := fun {e d l m} hx hm ne hh => by
      rw [look_in hx (by simp)] at hh
      obtain ⟨a, ha, hae⟩ := look_ex (l := d :: m) (q := e.1) (by rw [← hh]; exact ne)
      rw [← hae]
      rcases List.mem_cons.1 ha with rfl | ha
      · exact bl_irrefl _
      · exact bl_asymm (hm a ha)
    have e1 : e.1 = d.1 := bl_total _ _ (key hx hy'.1 (nx e (by simp)) (h e.1)) (key hy hx'.1 (ny d (by simp)) (h d.1).symm)
    have e2 : e.2 = d.2 := by
      have := h e.1
      rw [look_in hx (by simp), e1, look_in hy (by simp)] at this; exact this
    have ed : e = d := Prod.ext e1 e2
    subst ed
    have hl : l = m := by
      refine rise_ext hx'.2 hy'.2 (fun a ha => nx a (by simp [ha])) (fun a ha => ny a (by simp [ha])) fun q => ?_
      by_cases c : e.1 = q
      · rw [look_none fun a ha k => bl_ne (hx'.1 a ha) (by rw [k, c]), look_none fun a ha k => bl_ne (hy'.1 a ha) (by rw [k, c])]
      · have := h q
        rw [look, look, if_neg c, if_neg c] at this; exact this
    rw [hl]
abbrev Pne (x : List Ent) : Prop := ∀ e ∈ x, e.1 ≠ []
abbrev Rne (x : List Ent) : Prop := ∀ e ∈ x, e.2 ≠ []
structure SP (x y z : List Ent) (S : List Sd) : Prop where
  rise : S.Pairwise fun s t => Op.bytesLess s.p t.p = true
  ne : ∀ s ∈ S, s.p ≠ []
  a : ∀ s ∈ S, s.a = look x s.p
  b : ∀ s ∈ S, s.b = look y s.p
  c : ∀ s ∈ S, s.c = look z s.p
  mem : ∀ s ∈ S, ∃ e, (e ∈ x ∨ e ∈ y ∨ e ∈ z) ∧ e.1 = s.p
  all : ∀ e, e ∈ x ∨ e ∈ y ∨ e ∈ z → ∃ s ∈ S, s.p = e.1
structure Gd (x : List Ent) : Prop where
  rise : Rise x
  pne : Pne x
  rne : Rne x
  len : ∀ e ∈ x, e.1.length ≤ 24
  right : ∀ e ∈ x, right e.2 = true
mutual
theorem entT_len24 : ∀ (t : Nd) (n : Nat), okT t n = true → ∀ e ∈ entT t, e.1.length ≤ n
  | .node s rs ks, n, h, e, he => by
    obtain ⟨g1, g2, g3, g4, g5⟩ := okT_iff.1 h
    simp only [Nd.lab_node, Nd.rows_node, Nd.kids_node] at g2 g5
    rw [entT] at he
    rcases List.mem_append.1 he with he | he
    · split at he
      · cases he
      · simp only [List.mem_singleton] at he; subst he; exact g2
    · obtain ⟨d, hd, rfl⟩ := List.mem_map.1 he
      have := entL_len24 ks _ g5 d hd
      simp only [List.length_append]; omega
theorem entL_len24 : ∀ (l : List Nd) (n : Nat), kidsOk l n → ∀ e ∈ entL l, e.1.length ≤ n
  | [], _, _, e, he => by simp [entL] at he
  | t :: r, n, h, e, he => by
    rw [entL] at he
    rcases List.mem_append.1 he with he | he
    · exact entT_len24 t n (h.1 t (by simp)) e he
    · exact entL_len24 r n (kidsOk_sub h (List.sublist_cons_self _ _)) e he
end
theorem gd_ent {t : Nd} (h : okR t = true) : Gd (entR t) :=
  have hk := (okR_iff.1 h).2.2
  ⟨entR_rise h, entL_ne_nil hk, entL_ne _, entL_len24 _ _ hk, entL_right _ _ hk⟩
theorem entP_R {t : Nd} (h : okR t = true) : entP t = entR t := by rw [entP, h]; rfl
theorem getR_P (t : Nd) (q : Bys) : getR t q = look (entP t) q := by
  rw [getR_look, entP]
  cases okR t <;> rfl
theorem entP_inj {t u : Nd} (h : okR t = true) (k : okR u = true) (e : entR t = entR u) : t = u := by
  obtain ⟨a1, a2, _⟩ := okR_iff.1 h
  obtain ⟨b1, b2, _⟩ := okR_iff.1 k
  have e1 := of_ent h (f := sizeL t.kids + sizeL u.kids) (by omega)
  have e2 := of_ent k (f := sizeL t.kids + sizeL u.kids) (by omega)
  rw [e] at e1
  have e3 : t.kids = u.kids := e1.symm.trans e2
  cases t; cases u
  simp only [Nd.lab_node, Nd.rows_node, Nd.kids_node] at a1 a2 b1 b2 e3
  rw [a1, a2, b1, b2, e3]
def nd0 : Nd := .node [] [] []
theorem nd0_ok : okR nd0 = true := rfl
end Go.Proofs.YtgaabjmbnomimaaDoor
namespace Go.Proofs.YtgaabjmbnomimaaDoor
open Go Go.Ev
section
variable {x y z : List Ent} {S : List Sd} (hs : SP x y z S) (hx : Gd x) (hy : Gd y) (hz : Gd z)
include hs
omit hs in
include hx hy hz
end
theorem tree_ext {t u : Nd} (h : okR t = true) (k : okR u = true) (e : ∀ q, getR t q = getR u q) : t = u := by
  refine entP_inj h k ?_
  have h1 := gd_ent h; have h2 := gd_ent k
  refine rise_ext h1.rise h2.rise h1.rne h2.rne fun q => ?_
  have := e q
  rw [getR_P, getR_P, entP_R h, entP_R k] at this; exact this
end Go.Proofs.YtgaabjmbnomimaaDoor
namespace Go.Proofs.YtgaabjmbnomimaaDoor
open Go Go.Ev
-- cse
end Go.Proofs.YtgaabjmbnomimaaDoor
namespace Go.Proofs.YtgaabjmbnomimaaDoor
open Go Go.Ev
-- cse
variable (dd : Nat)
end Go.Proofs.YtgaabjmbnomimaaDoor
namespace Go.Proofs.YtgaabjmbnomimaaDoor
open Go Go.Ev
theorem str_ok (p : Bys) : shOk [.str] [C.str p] = true := rfl
theorem str_hd (p : Bys) (d : C) : (([C.str p] : List C).headD d).st = p := rfl
end Go.Proofs.YtgaabjmbnomimaaDoor
namespace Go.Proofs.YtgaabjmbnomimaaDoor
open Go Go.Ev
def dE (x : List C) : Ent := ((x.headD .pnil).st, toRows (x.tail.headD .pnil).xs)
def isE (x : List C) : Bool := shOk [.str, .sl 5] x && isRows (x.tail.headD .pnil).xs
def isEs (xs : LLC) : Bool := xs.all isE
def toEs (xs : LLC) : List Ent := xs.map dE
theorem dE_ee (e : Ent) : dE (ee e) = e := by unfold dE; rw [ee_p, ee_r, toRows_rows]
theorem isE_ee (e : Ent) : isE (ee e) = true := by unfold isE; rw [ee_ok, ee_r, isRows_rows]; rfl
theorem isE_of {x : List C} (h : isE x = true) : x = ee (dE x) := by
  simp only [isE, Bool.and_eq_true] at h
  have h4 := shape_ok h.1
  have : ee (dE x) = Go.Ev.shape [.str, .sl 5] x := by
    show [C.str (x.headD .pnil).st, C.sl 5 none false (rows (toRows (x.tail.headD .pnil).xs))] = _
    rw [← rows_of h.2]; rfl
  rw [this]; exact h4.symm
theorem ents_ex {xs : List (List C)} (h : isEs xs = true) : ∃ l, xs = ents l := by
  refine ⟨toEs xs, ?_⟩
  unfold isEs at h
  rw [List.all_eq_true] at h
  unfold ents toEs
  rw [List.map_map]
  conv => lhs; rw [← List.map_id xs]
  exact List.map_congr_left fun x hx => isE_of (h x hx)
theorem isEs_ents (l : List Ent) : isEs (ents l) = true := by simp [isEs, ents, isE_ee]
theorem toEs_ents (l : List Ent) : toEs (ents l) = l := by simp [toEs, ents, dE_ee, Function.comp_def]
end Go.Proofs.YtgaabjmbnomimaaDoor
namespace Go.Proofs.YtgaabjmbnomimaaDoor
open Go Go.Ev
-- cse
variable (dd : Nat)
end Go.Proofs.YtgaabjmbnomimaaDoor
namespace Go.Proofs.YtgaabjmbnomimaaDoor
open Go Go.Ev
-- cse
noncomputable abbrev p23 : Par := par E sh (ctOf []) 23 1 0
abbrev s23_0 (nl : OBo) (tt : Bool) (xs : LLC) (i3 : Int) : Fr × Hp := ([(0, V.c (C.sl 5 nl tt xs)), (3, V.c (C.int IntKind.i64 i3))], [])
noncomputable abbrev b23_0 : Code := loopAt (codeOf E (23)) 0
abbrev x23_0x0 : Ex × Fr × Hp := (Ex.ret, [(2, V.c (C.bool false))], [])
abbrev x23_0x1 (nl : OBo) (tt : Bool) (xs : LLC) (i3 : Int) : Ex × Fr × Hp := (Ex.exit 0, [(0, V.c (C.sl 5 nl tt xs)), (3, V.c (C.int IntKind.i64 i3)), (10, V.c (C.bool false))], [])
theorem t23_0 (nl : OBo) (tt : Bool) (xs : LLC) (i3 : Int) : p23.lts b23_0 (s23_0 nl tt xs i3) = (Tr.br (decide (i3 < (↑xs.length : Int))) (Tr.chk (decide (0 ≤ i3)) (Tr.chk true (Tr.chk (decide (i3.toNat < xs.length)) (Tr.chk (shOk [Sk.int IntKind.i64, Sk.int IntKind.i64, Sk.int IntKind.i64, Sk.int IntKind.i64, Sk.str] (xs.getD i3.toNat [])) (Tr.br (decide (100 < (↑((xs.getD i3.toNat []).tail.tail.tail.tail.headD C.pnil).st.length : Int))) (Tr.leaf (R.x x23_0x0)) (Tr.leaf (R.s (s23_0 nl tt xs (IntKind.i64.wrap (i3 + 1)))))))))) (Tr.leaf (R.x (x23_0x1 nl tt xs i3)))) := by kernel_rfl
theorem k23_0x0 : p23.fkx 0 x23_0x0 = (Tr.leaf (R.out [V.c (C.bool false)] [])) := by kernel_rfl
theorem k23_0x1 (nl : OBo) (tt : Bool) (xs : LLC) (i3 : Int) : p23.fkx 0 (x23_0x1 nl tt xs i3) = (Tr.leaf (R.out [V.c (C.bool true)] [])) := by kernel_rfl
theorem t23 (nl : OBo) (tt : Bool) (xs : LLC) : p23.ft ([V.c (C.sl 5 nl tt xs)]) ([]) = (Tr.br (decide (70 < (↑xs.length : Int))) (Tr.leaf (R.out [V.c (C.bool false)] [])) (Tr.ls 0 (s23_0 nl tt xs (0)))) := by kernel_rfl
def s23 : CSpec := fun a h => match a, h with
  | [.c (.sl 5 nl tt xs)], [] => some ([isRows xs], [V.b (shortR (toRows xs))], [])
  | _, _ => none
variable (dd : Nat)
def s24 : CSpec := fun a h => match a, h with
  | [], [] => some ([], [V.b true], [])
  | _, _ => none
end Go.Proofs.YtgaabjmbnomimaaDoor
namespace Go.Proofs.YtgaabjmbnomimaaDoor
open Go Go.Ev
theorem f23 (l : List Row) (nl : OBo) (tt : Bool) : call E 23 [.c (.sl 5 nl tt (rows l))] [] = some ([V.b (shortR l)], []) := by
  have hct : (ctOf []).ok E := ctOf_nil
  refine call_of (E := E) (sh := sh) (ct := ctOf []) (na := 1) (m := 0) hct rfl rfl rfl rfl rfl rfl ?_
  rw [t23, rows_length, fd_br]
  unfold shortR
  by_cases c0 : (70 : Int) < l.length
  · rw [if_pos (by simpa using c0), fd_leaf]
    have : ¬ l.length ≤ 70 := by omega
    simp [this]
  rw [if_neg (by simpa using c0)]
  have c0' : l.length ≤ 70 := by omega
  simp only [c0', decide_true, Bool.true_and]
  refine fd_post hct (by kernel_rfl) rfl (list_post (p := p23) hct (b := b23_0) l.length (fun k (_ : Unit) => s23_0 nl tt (rows l) k) (fun k _ => ((l.drop k).all fun r => decide (r.v.s.length ≤ 100)) = (l.all fun r => decide (r.v.s.length ≤ 100))) _ ?_ ?_ 0 (Nat.zero_le _) () rfl)
  · rintro k _ hk hi
    rw [List.drop_eq_getElem_cons hk, List.all_cons] at hi
    rw [t23_0]
    simp only [ld_br, ld_chk', ld_leaf, fd_br, fd_chk', fd_leaf, decide_true, decide_eq_true_eq, if_true, Int.toNat_natCast, Int.natCast_nonneg, Int.ofNat_lt, Int.ofNat_le, Bool.false_eq_true, if_false, bne_iff_ne, beq_iff_eq, ne_eq, not_true_eq_false, not_false_eq_true, Bool.not_eq_true', decide_eq_false_iff_not, reduceCtorEq, rows_length, pcs_length, er_ok, er_ok', ep_ok, ep_ok', dr_er, dp_ep, isRows_rows, isPcs_pcs, toRows_rows, toPcs_pcs, rows_take, rows_drop, pcs_take, pcs_drop, rows_append, pcs_append, ints_length, isInts_ints, toInts_ints, ei_i, ei_ok, mk_headD, ints_take, ints_drop, ints_append, ints_snoc, ints_snoc', List.take_length, Nat.zero_add, Nat.le_refl, er_a, er_b, er_k, er_n, er_s, er_v, ep_a, ep_b, ep_hk, ep_hn, ep_hs, ep_wk, ep_wn, ep_ws, hk, rows_getD hk, wrap_succ (show k < 9223372036854775807 by omega)]
    by_cases c : (100 : Int) < l[k].v.s.length
    · have : ¬ l[k].v.s.length ≤ 100 := by omega
      simp only [this, decide_false, Bool.false_and] at hi
      exact .inr ⟨x23_0x0, by simp, by rw [k23_0x0, fd_leaf, ← hi], by rw [if_pos c]⟩
    · have : l[k].v.s.length ≤ 100 := by omega
      simp only [this, decide_true, Bool.true_and] at hi
      exact .inl ⟨(), hi, by rw [if_neg c]⟩
  · rintro _ hi
    rw [List.drop_length, List.all_nil] at hi
    rw [t23_0]
    exact ⟨x23_0x1 nl tt (rows l) l.length, by simp, by rw [k23_0x1, fd_leaf, ← hi], by simp only [ld_br, ld_chk', ld_leaf, fd_br, fd_chk', fd_leaf, decide_true, decide_eq_true_eq, if_true, Int.toNat_natCast, Int.natCast_nonneg, Int.ofNat_lt, Int.ofNat_le, Bool.false_eq_true, if_false, bne_iff_ne, beq_iff_eq, ne_eq, not_true_eq_false, not_false_eq_true, Bool.not_eq_true', decide_eq_false_iff_not, reduceCtorEq, rows_length, pcs_length, er_ok, er_ok', ep_ok, ep_ok', dr_er, dp_ep, isRows_rows, isPcs_pcs, toRows_rows, toPcs_pcs, rows_take, rows_drop, pcs_take, pcs_drop, rows_append, pcs_append, ints_length, isInts_ints, toInts_ints, ei_i, ei_ok, mk_headD, ints_take, ints_drop, ints_append, ints_snoc, ints_snoc', List.take_length, Nat.zero_add, Nat.le_refl, er_a, er_b, er_k, er_n, er_s, er_v, ep_a, ep_b, ep_hk, ep_hn, ep_hs, ep_wk, ep_wn, ep_ws, Int.lt_irrefl]⟩
theorem s23_ok : CSpecOk E 23 s23 := by
  intro a h cs vals h' he hc
  unfold s23 at he
  split at he <;> simp only [Option.some.injEq, Prod.mk.injEq, reduceCtorEq] at he
  rename_i nl tt xs
  obtain ⟨rfl, rfl, rfl⟩ := he
  simp only [allT, Bool.and_true, Bool.and_eq_true, decide_eq_true_eq] at hc
  obtain ⟨l, rfl⟩ := rows_ex hc
  rw [toRows_rows]
  exact f23 l nl tt
set_option maxRecDepth 100000 in
theorem f24 : call E 24 [] [] = some ([V.b true], []) := call_iff.2 ⟨200, by kernel_rfl⟩
theorem s24_ok : CSpecOk E 24 s24 := by
  intro a h cs vals h' he hc
  unfold s24 at he
  split at he <;> simp only [Option.some.injEq, Prod.mk.injEq, reduceCtorEq] at he
  obtain ⟨rfl, rfl, rfl⟩ := he
  exact f24
end Go.Proofs.YtgaabjmbnomimaaDoor
namespace Go.Proofs.YtgaabjmbnomimaaDoor
open Go Go.Ev
-- cse
variable (dd : Nat)
noncomputable abbrev p70 : Par := par E sh (ctOf [(63, s63), (64, s64)]) 70 1 0
theorem t70 (p : Bys) (rn : OBo) (rt : Bool) (xs : LLC) : p70.ft ([V.agg [V.c (C.str p), V.c (C.sl 5 rn rt xs)]]) ([]) = (Tr.br (!isPath p) (Tr.leaf (R.out [V.c (C.bool true)] [])) (Tr.br ((↑xs.length : Int) == 0) (Tr.leaf (R.out [V.c (C.bool true)] [])) (Tr.chk (isRows xs) (Tr.leaf (R.out [V.c (C.bool (checkR (toRows xs) != 0))] []))))) := by kernel_rfl
def goodE (e : Ent) : Bool := isPath e.1 && decide (e.2 ≠ []) && right e.2
def s70 : CSpec := fun a h => match a, h with
  | [.agg [.c (.str p), .c (.sl 5 rn rt xs)]], [] => some ([isRows xs], [V.b (!goodE (p, toRows xs))], [])
  | _, _ => none
noncomputable abbrev p126 : Par := par E sh (ctOf [(70, s70)]) 126 2 0
abbrev s126_0 (nl : OBo) (tt : Bool) (xs : LLC) (i7 : Int) (i8 : Int) : Fr × Hp := ([(0, V.c (C.sl 2 nl tt xs)), (1, V.fn 70 []), (7, V.c (C.int IntKind.i64 i7)), (8, V.c (C.int IntKind.i64 i8))], [])
noncomputable abbrev b126_0 : Code := loopAt (codeOf E (126)) 0
abbrev x126_0x0 (i8 : Int) : Ex × Fr × Hp := (Ex.ret, [(4, V.c (C.int IntKind.i64 i8))], [])
abbrev x126_0x1 (nl : OBo) (tt : Bool) (xs : LLC) (i7 : Int) (i8 : Int) : Ex × Fr × Hp := (Ex.exit 0, [(0, V.c (C.sl 2 nl tt xs)), (1, V.fn 70 []), (7, V.c (C.int IntKind.i64 i7)), (8, V.c (C.int IntKind.i64 i8)), (9, V.c (C.bool false))], [])
theorem t126_0 (nl : OBo) (tt : Bool) (xs : LLC) (i7 : Int) (i8 : Int) : p126.lts b126_0 (s126_0 nl tt xs i7 i8) = (Tr.br (decide (i8 < i7)) (Tr.chk (decide (0 ≤ i8)) (Tr.chk true (Tr.chk (decide (i8.toNat < xs.length)) (Tr.chk (shOk [Sk.str, Sk.sl 5] (xs.getD i8.toNat [])) (Tr.chk (isRows ((xs.getD i8.toNat []).tail.headD C.pnil).xs) (Tr.br (!goodE (((xs.getD i8.toNat []).headD C.pnil).st, toRows ((xs.getD i8.toNat []).tail.headD C.pnil).xs)) (Tr.leaf (R.x (x126_0x0 i8))) (Tr.leaf (R.s (s126_0 nl tt xs i7 (IntKind.i64.wrap (i8 + 1))))))))))) (Tr.leaf (R.x (x126_0x1 nl tt xs i7 i8)))) := by kernel_rfl
theorem k126_0x0 (i8 : Int) : p126.fkx 0 (x126_0x0 i8) = (Tr.leaf (R.out [V.c (C.int IntKind.i64 i8)] [])) := by kernel_rfl
theorem k126_0x1 (nl : OBo) (tt : Bool) (xs : LLC) (i7 : Int) (i8 : Int) : p126.fkx 0 (x126_0x1 nl tt xs i7 i8) = (Tr.leaf (R.out [V.c (C.int IntKind.i64 (-1))] [])) := by kernel_rfl
theorem t126 (nl : OBo) (tt : Bool) (xs : LLC) : p126.ft ([V.c (C.sl 2 nl tt xs), V.fn 70 []]) ([]) = (Tr.ls 0 (s126_0 nl tt xs ((↑xs.length : Int)) (0))) := by kernel_rfl
def idxE (f : Ent → Bool) : List Ent → Nat → Int
  | [], _ => -1
  | c :: r, k => if f c = true then k else idxE f r (k + 1)
def s126 : CSpec := fun a h => match a, h with
  | [.c (.sl 2 nl tt xs), .fn 70 []], [] => some ([isEs xs, decide (xs.length ≤ 9223372036854775807)], [V.i (idxE (fun e => !goodE e) (toEs xs) 0)], [])
  | _, _ => none
noncomputable abbrev p71 : Par := par E sh (ctOf [(126, s126)]) 71 2 0
theorem t71 (nl : OBo) (tt : Bool) (xs : LLC) : p71.ft ([V.c (C.sl 2 nl tt xs), V.fn 70 []]) ([]) = (Tr.chk (isEs xs) (Tr.chk (decide (xs.length ≤ 9223372036854775807)) (Tr.leaf (R.out [V.c (C.bool (decide (0 ≤ idxE (fun (e : Ent) => !goodE e) (toEs xs) 0)))] [])))) := by kernel_rfl
def s71 : CSpec := fun a h => match a, h with
  | [.c (.sl 2 nl tt xs), .fn 70 []], [] => some ([isEs xs, decide (xs.length ≤ 9223372036854775807)], [V.b (!(toEs xs).all goodE)], [])
  | _, _ => none
noncomputable abbrev p29 : Par := par E sh (ctOf [(23, s23)]) 29 1 0
abbrev s29_0 (nl : OBo) (tt : Bool) (xs : LLC) (i3 : Int) : Fr × Hp := ([(0, V.c (C.sl 2 nl tt xs)), (3, V.c (C.int IntKind.i64 i3))], [])
noncomputable abbrev b29_0 : Code := loopAt (codeOf E (29)) 0
abbrev x29_0x0 : Ex × Fr × Hp := (Ex.ret, [(2, V.c (C.bool false))], [])
abbrev x29_0x1 (nl : OBo) (tt : Bool) (xs : LLC) (i3 : Int) : Ex × Fr × Hp := (Ex.exit 0, [(0, V.c (C.sl 2 nl tt xs)), (3, V.c (C.int IntKind.i64 i3)), (10, V.c (C.bool false))], [])
theorem t29_0 (nl : OBo) (tt : Bool) (xs : LLC) (i3 : Int) : p29.lts b29_0 (s29_0 nl tt xs i3) = (Tr.br (decide (i3 < (↑xs.length : Int))) (Tr.chk (decide (0 ≤ i3)) (Tr.chk true (Tr.chk (decide (i3.toNat < xs.length)) (Tr.chk (shOk [Sk.str, Sk.sl 5] (xs.getD i3.toNat [])) (Tr.br (decide (100 < (↑((xs.getD i3.toNat []).headD C.pnil).st.length : Int))) (Tr.leaf (R.x x29_0x0)) (Tr.chk (decide (0 ≤ i3)) (Tr.chk true (Tr.chk (decide (i3.toNat < xs.length)) (Tr.chk (shOk [Sk.str, Sk.sl 5] (xs.getD i3.toNat [])) (Tr.chk (isRows ((xs.getD i3.toNat []).tail.headD C.pnil).xs) (Tr.br (!shortR (toRows ((xs.getD i3.toNat []).tail.headD C.pnil).xs)) (Tr.leaf (R.x x29_0x0)) (Tr.leaf (R.s (s29_0 nl tt xs (IntKind.i64.wrap (i3 + 1)))))))))))))))) (Tr.leaf (R.x (x29_0x1 nl tt xs i3)))) := by kernel_rfl
theorem k29_0x0 : p29.fkx 0 x29_0x0 = (Tr.leaf (R.out [V.c (C.bool false)] [])) := by kernel_rfl
theorem k29_0x1 (nl : OBo) (tt : Bool) (xs : LLC) (i3 : Int) : p29.fkx 0 (x29_0x1 nl tt xs i3) = (Tr.leaf (R.out [V.c (C.bool true)] [])) := by kernel_rfl
theorem t29 (nl : OBo) (tt : Bool) (xs : LLC) : p29.ft ([V.c (C.sl 2 nl tt xs)]) ([]) = (Tr.br (decide (60 < (↑xs.length : Int))) (Tr.leaf (R.out [V.c (C.bool false)] [])) (Tr.ls 0 (s29_0 nl tt xs (0)))) := by kernel_rfl
end Go.Proofs.YtgaabjmbnomimaaDoor
namespace Go.Proofs.YtgaabjmbnomimaaDoor
open Go Go.Ev
-- cse
def s72 : CSpec := fun a h => match a, h with
  | [.c (.sl 2 nl tt xs)], [] => some ([decide (xs.length < 4294967296)], [.buf 0 0 0 xs.length], [.mem 2 0 xs])
  | _, _ => none
theorem s72_ok : CSpecOk E 72 s72 := fun a h cs vals h' he hc => by
  unfold s72 at he
  split at he <;> simp only [Option.some.injEq, Prod.mk.injEq, reduceCtorEq] at he
  rename_i nl tt xs
  obtain ⟨rfl, rfl, rfl⟩ := he
  simp only [allT, Bool.and_true, decide_eq_true_eq] at hc
  exact call_ext (f := x72) rfl (by simp only [x72, if_pos hc])
def s73 : CSpec := fun a h => match a, h with
  | [.buf 0 0 0 len, .fn 74 []], [.mem 2 0 xs] => some ([isEnts xs, decide (len = xs.length), decide (xs.length < 4294967296)], [], [.mem 2 0 (sortX xs)])
  | _, _ => none
theorem s73_ok : CSpecOk E 73 s73 := fun a h cs vals h' he hc => by
  unfold s73 at he
  split at he <;> simp only [Option.some.injEq, Prod.mk.injEq, reduceCtorEq] at he
  rename_i len xs
  obtain ⟨rfl, rfl, rfl⟩ := he
  simp only [allT, Bool.and_true, Bool.and_eq_true, decide_eq_true_eq] at hc
  exact call_ext (f := x73) rfl (by simp only [x73]; exact if_pos hc)
noncomputable abbrev p30 : Par := par E sh (ctOf [(65, s65 25), (71, s71), (72, s72), (73, s73)]) 30 1 0
abbrev s30_0 (n5 : Nat) (n17 : Nat) (i18 : Int) (i19 : Int) (sh0 : Bys) (nlh0 : OBo) (th0 : Bool) (xsh0 : LLC) (nlh0_1 : OBo) (th0_1 : Bool) (xsh0_1 : LLC) (ys1 : LLC) (sh2 : Bys) (nlh2 : OBo) (th2 : Bool) (xsh2 : LLC) (nlh2_1 : OBo) (th2_1 : Bool) (xsh2_1 : LLC) : Fr × Hp := ([(2, V.ptr 0 0 0 0), (5, V.buf 1 0 0 n5), (6, V.ptr 2 0 0 0), (17, V.buf 1 0 0 n17), (18, V.c (C.int IntKind.i64 i18)), (19, V.c (C.int IntKind.i64 i19))], [O.box [V.c (C.str sh0), V.c (C.sl 5 nlh0 th0 xsh0), V.c (C.sl 3 nlh0_1 th0_1 xsh0_1)], O.mem 2 0 ys1, O.box [V.c (C.str sh2), V.c (C.sl 5 nlh2 th2 xsh2), V.c (C.sl 3 nlh2_1 th2_1 xsh2_1)]])
noncomputable abbrev b30_0 : Code := loopAt (codeOf E (30)) 0
abbrev x30_0x0 (ys1 : LLC) (sh2 : Bys) (nlh2 : OBo) (th2 : Bool) (xsh2 : LLC) (nlh2_1 : OBo) (th2_1 : Bool) (xsh2_1 : LLC) (sh3 : Bys) (nlh3 : OBo) (xsh3 : LLC) : Ex × Fr × Hp := (Ex.ret, [(2, V.ptr 0 0 0 0), (3, V.c (C.int IntKind.i64 16))], [O.box [V.c (C.str []), V.c (C.sl 5 (some true) true []), V.c (C.sl 3 (some true) true [])], O.mem 2 0 ys1, O.box [V.c (C.str sh2), V.c (C.sl 5 nlh2 th2 xsh2), V.c (C.sl 3 nlh2_1 th2_1 xsh2_1)], O.box [V.c (C.str sh3), V.c (C.sl 5 nlh3 false xsh3)]])
abbrev x30_0x1 (n5 : Nat) (n17 : Nat) (i18 : Int) (i19 : Int) (sh0 : Bys) (nlh0 : OBo) (th0 : Bool) (xsh0 : LLC) (nlh0_1 : OBo) (th0_1 : Bool) (xsh0_1 : LLC) (ys1 : LLC) (sh2 : Bys) (nlh2 : OBo) (th2 : Bool) (xsh2 : LLC) (nlh2_1 : OBo) (th2_1 : Bool) (xsh2_1 : LLC) : Ex × Fr × Hp := (Ex.exit 0, [(2, V.ptr 0 0 0 0), (5, V.buf 1 0 0 n5), (6, V.ptr 2 0 0 0), (17, V.buf 1 0 0 n17), (18, V.c (C.int IntKind.i64 i18)), (19, V.c (C.int IntKind.i64 i19)), (20, V.c (C.bool false))], [O.box [V.c (C.str sh0), V.c (C.sl 5 nlh0 th0 xsh0), V.c (C.sl 3 nlh0_1 th0_1 xsh0_1)], O.mem 2 0 ys1, O.box [V.c (C.str sh2), V.c (C.sl 5 nlh2 th2 xsh2), V.c (C.sl 3 nlh2_1 th2_1 xsh2_1)]])
abbrev c30_0_1 (i19 : Int) (ys1 : LLC) := (List.take 2 (ys1.getD (0 + i19.toNat) []))
abbrev c30_0_2 (i19 : Int) (ys1 : LLC) (sh2 : Bys) (xsh2 : LLC) (xsh2_1 : LLC) := (putN (((c30_0_1 i19 ys1).headD C.pnil).st.length + 1) (Nd.node sh2 (toRows xsh2) (decL xsh2_1)) ((c30_0_1 i19 ys1).headD C.pnil).st (toRows ((c30_0_1 i19 ys1).tail.headD C.pnil).xs))
theorem t30_0 (n5 : Nat) (n17 : Nat) (i18 : Int) (i19 : Int) (sh0 : Bys) (nlh0 : OBo) (th0 : Bool) (xsh0 : LLC) (nlh0_1 : OBo) (th0_1 : Bool) (xsh0_1 : LLC) (ys1 : LLC) (sh2 : Bys) (nlh2 : OBo) (th2 : Bool) (xsh2 : LLC) (nlh2_1 : OBo) (th2_1 : Bool) (xsh2_1 : LLC) : p30.lts b30_0 (s30_0 n5 n17 i18 i19 sh0 nlh0 th0 xsh0 nlh0_1 th0_1 xsh0_1 ys1 sh2 nlh2 th2 xsh2 nlh2_1 th2_1 xsh2_1) = (Tr.br (decide (i19 < i18)) (Tr.chk (decide (0 ≤ i19)) (Tr.chk (decide (i19 < (↑n17 : Int))) (Tr.chk true (Tr.chk true (Tr.chk true (Tr.chk (decide (0 + i19.toNat < ys1.length)) (Tr.chk (decide (2 ≤ (ys1.getD (0 + i19.toNat) []).length)) (Tr.chk (shOk [Sk.str, Sk.sl 5] (c30_0_1 i19 ys1)) (Tr.br (decide (0 < i19)) (Tr.chk (decide (0 ≤ IntKind.i64.wrap (i19 - 1))) (Tr.chk (decide (IntKind.i64.wrap (i19 - 1) < (↑n5 : Int))) (Tr.chk true (Tr.chk true (Tr.chk true (Tr.chk (decide (0 + (IntKind.i64.wrap (i19 - 1)).toNat < ys1.length)) (Tr.chk (decide (0 + (0, 1, false).fst + 1 ≤ (ys1.getD (0 + (IntKind.i64.wrap (i19 - 1)).toNat) []).length)) (Tr.chk (shOk [Sk.str] (List.take 1 (List.drop (0 + (0, 1, false).fst) (ys1.getD (0 + (IntKind.i64.wrap (i19 - 1)).toNat) [])))) (Tr.br (((List.take 1 (List.drop (0 + (0, 1, false).fst) (ys1.getD (0 + (IntKind.i64.wrap (i19 - 1)).toNat) []))).headD C.pnil).st == ((c30_0_1 i19 ys1).headD C.pnil).st) (Tr.leaf (R.x (x30_0x0 ys1 sh2 nlh2 th2 xsh2 nlh2_1 th2_1 xsh2_1 (((c30_0_1 i19 ys1).headD C.pnil).st) (none) (((c30_0_1 i19 ys1).tail.headD C.pnil).xs)))) (Tr.chk (isRows xsh2) (Tr.chk (isL xsh2_1) (Tr.chk (isRows ((c30_0_1 i19 ys1).tail.headD C.pnil).xs) (Tr.chk (okL (decL xsh2_1) 24 (-1)) (Tr.chk (right (toRows xsh2)) (Tr.chk (right (toRows ((c30_0_1 i19 ys1).tail.headD C.pnil).xs)) (Tr.chk (decide (sh2.length ≤ 24)) (Tr.chk true (Tr.chk (decide (((c30_0_1 i19 ys1).headD C.pnil).st.length < 25)) (Tr.chk (decide (((c30_0_1 i19 ys1).headD C.pnil).st.length ≤ 24)) (Tr.leaf (R.s (s30_0 n5 n17 i18 (IntKind.i64.wrap (i19 + 1)) sh0 nlh0 th0 xsh0 nlh0_1 th0_1 xsh0_1 ys1 ((c30_0_2 i19 ys1 sh2 xsh2 xsh2_1).lab) (none) false (rows (c30_0_2 i19 ys1 sh2 xsh2 xsh2_1).rows) (none) false (encL (c30_0_2 i19 ys1 sh2 xsh2 xsh2_1).kids))))))))))))))))))))))) (Tr.chk (isRows xsh2) (Tr.chk (isL xsh2_1) (Tr.chk (isRows ((c30_0_1 i19 ys1).tail.headD C.pnil).xs) (Tr.chk (okL (decL xsh2_1) 24 (-1)) (Tr.chk (right (toRows xsh2)) (Tr.chk (right (toRows ((c30_0_1 i19 ys1).tail.headD C.pnil).xs)) (Tr.chk (decide (sh2.length ≤ 24)) (Tr.chk true (Tr.chk (decide (((c30_0_1 i19 ys1).headD C.pnil).st.length < 25)) (Tr.chk (decide (((c30_0_1 i19 ys1).headD C.pnil).st.length ≤ 24)) (Tr.leaf (R.s (s30_0 n5 n17 i18 (IntKind.i64.wrap (i19 + 1)) sh0 nlh0 th0 xsh0 nlh0_1 th0_1 xsh0_1 ys1 ((c30_0_2 i19 ys1 sh2 xsh2 xsh2_1).lab) (none) false (rows (c30_0_2 i19 ys1 sh2 xsh2 xsh2_1).rows) (none) false (encL (c30_0_2 i19 ys1 sh2 xsh2 xsh2_1).kids))))))))))))))))))))))) (Tr.leaf (R.x (x30_0x1 n5 n17 i18 i19 sh0 nlh0 th0 xsh0 nlh0_1 th0_1 xsh0_1 ys1 sh2 nlh2 th2 xsh2 nlh2_1 th2_1 xsh2_1)))) := by kernel_rfl
theorem k30_0x0 (ys1 : LLC) (sh2 : Bys) (nlh2 : OBo) (th2 : Bool) (xsh2 : LLC) (nlh2_1 : OBo) (th2_1 : Bool) (xsh2_1 : LLC) (sh3 : Bys) (nlh3 : OBo) (xsh3 : LLC) : p30.fkx 0 (x30_0x0 ys1 sh2 nlh2 th2 xsh2 nlh2_1 th2_1 xsh2_1 sh3 nlh3 xsh3) = (Tr.leaf (R.out [V.agg [V.c (C.str []), V.c (C.sl 5 none false []), V.c (C.sl 3 none false [])], V.c (C.int IntKind.i64 16)] [])) := by kernel_rfl
theorem k30_0x1 (n5 : Nat) (n17 : Nat) (i18 : Int) (i19 : Int) (sh0 : Bys) (nlh0 : OBo) (th0 : Bool) (xsh0 : LLC) (nlh0_1 : OBo) (th0_1 : Bool) (xsh0_1 : LLC) (ys1 : LLC) (sh2 : Bys) (nlh2 : OBo) (th2 : Bool) (xsh2 : LLC) (nlh2_1 : OBo) (th2_1 : Bool) (xsh2_1 : LLC) : p30.fkx 0 (x30_0x1 n5 n17 i18 i19 sh0 nlh0 th0 xsh0 nlh0_1 th0_1 xsh0_1 ys1 sh2 nlh2 th2 xsh2 nlh2_1 th2_1 xsh2_1) = (Tr.leaf (R.out [V.agg [V.c (C.str sh2), V.c (C.sl 5 none false xsh2), V.c (C.sl 3 none false xsh2_1)], V.c (C.int IntKind.i64 0)] [])) := by kernel_rfl
theorem t30 (nl : OBo) (tt : Bool) (xs : LLC) : p30.ft ([V.c (C.sl 2 nl tt xs)]) ([]) = (Tr.chk (isEs xs) (Tr.chk (decide (xs.length ≤ 9223372036854775807)) (Tr.br (!(toEs xs).all goodE) (Tr.leaf (R.out [V.agg [V.c (C.str []), V.c (C.sl 5 none false []), V.c (C.sl 3 none false [])], V.c (C.int IntKind.i64 2)] [])) (Tr.chk (decide (xs.length < 4294967296)) (Tr.chk (isEnts xs) (Tr.chk (decide (xs.length = xs.length)) (Tr.chk (decide (xs.length < 4294967296)) (Tr.chk true (Tr.ls 0 (s30_0 (xs.length) (xs.length) ((↑xs.length : Int)) (0) ([]) (some true) true ([]) (some true) true ([]) (sortX xs) ([]) (some true) true ([]) (some true) true ([]))))))))))) := by kernel_rfl
end Go.Proofs.YtgaabjmbnomimaaDoor
namespace Go.Proofs.YtgaabjmbnomimaaDoor
open Go Go.Ev
abbrev pthsE (l : List Ent) : List (List UInt8) := l.map Prod.fst
def insA (E : List Ent) (l : List Ent) : List Ent := l.foldl (fun E e => insE E e.1 e.2) E
theorem insE_rise {E : List Ent} {p : List UInt8} {r : List Row} (h : Rise E) : Rise (insE E p r) := by
  induction E with
  | nil => rw [insE]; split <;> simp
  | cons e l ih =>
    rw [Rise, List.pairwise_cons] at h
    rw [insE]
    by_cases c1 : Op.bytesLess e.1 p = true
    · rw [if_pos c1, Rise, List.pairwise_cons]
      refine ⟨fun x hx => ?_, ih h.2⟩
      rcases insE_mem hx with hx | ⟨rfl, _⟩
      · exact h.1 x hx
      · exact c1
    · rw [if_neg c1]
      by_cases c2 : e.1 = p
      · rw [if_pos c2]
        split
        · exact h.2
        · rw [Rise, List.pairwise_cons]
          exact ⟨fun x hx => by rw [← c2]; exact h.1 x hx, h.2⟩
      · rw [if_neg c2]
        split
        · exact List.pairwise_cons.2 h
        · have hgt := bl_gt (by simpa using c1) c2
          rw [Rise, List.pairwise_cons]
          refine ⟨fun x hx => ?_, List.pairwise_cons.2 h⟩
          rcases List.mem_cons.1 hx with rfl | hx
          · exact hgt
          · exact bl_trans hgt (h.1 x hx)
theorem insE_paths {E : List Ent} {p q : List UInt8} {r : List Row} (h : Rise E) (hn : Rne E) (hr : r ≠ []) : q ∈ pthsE (insE E p r) ↔ q = p ∨ q ∈ pthsE E := by
  have hi := insE_rise (p := p) (r := r) h
  have hin : Rne (insE E p r) := fun e he => by
    rcases insE_mem he with he | ⟨rfl, k⟩
    · exact hn e he
    · exact k
  have key : ∀ {F : List Ent}, Rise F → Rne F → (q ∈ pthsE F ↔ look F q ≠ []) := fun {F} hF nF => by
    constructor
    · intro hq
      obtain ⟨e, he, rfl⟩ := List.mem_map.1 hq
      rw [look_in hF he]; exact nF e he
    · intro k
      obtain ⟨e, he, hp⟩ := look_ex k
      exact List.mem_map.2 ⟨e, he, hp⟩
  rw [key hi hin, key h hn, look_ins h]
  by_cases c : q = p
  · rw [if_pos c]; simp [c, hr]
  · rw [if_neg c]; simp [c]
theorem insE_len {E : List Ent} {p : List UInt8} {r : List Row} (h : Rise E) (hr : r ≠ []) : (insE E p r).length = E.length + (if p ∈ pthsE E then 0 else 1) := by
  induction E with
  | nil => rw [insE, if_neg hr]; simp
  | cons e l ih =>
    rw [Rise, List.pairwise_cons] at h
    rw [insE]
    by_cases c1 : Op.bytesLess e.1 p = true
    · rw [if_pos c1, List.length_cons, ih h.2]
      have hne : p ≠ e.1 := fun k => bl_ne c1 k.symm
      simp only [pthsE, List.map_cons, List.mem_cons, hne, false_or, List.length_cons]
      split <;> omega
    · rw [if_neg c1]
      by_cases c2 : e.1 = p
      · rw [if_pos c2, if_neg hr]; simp [pthsE, c2]
      · rw [if_neg c2, if_neg hr]
        have hgt := bl_gt (by simpa using c1) c2
        have hno : p ∉ pthsE (e :: l) := fun hm => by
          obtain ⟨x, hx, hp⟩ := List.mem_map.1 hm
          rcases List.mem_cons.1 hx with rfl | hx
          · exact c2 hp
          · exact bl_ne (bl_trans hgt (h.1 x hx)) hp.symm
        rw [if_neg hno]; simp
structure Acc (E : List Ent) : Prop where
  rise : Rise E
  rne : Rne E
theorem Acc.nil : Acc [] := ⟨.nil, by simp⟩
theorem Acc.ins {E : List Ent} (h : Acc E) (p : Bys) {r : List Row} (hr : r ≠ []) : Acc (insE E p r) := ⟨insE_rise h.rise, fun e he => by
  rcases insE_mem he with he | ⟨rfl, k⟩
  · exact h.rne e he
  · exact k⟩
theorem insA_acc : ∀ {l E : List Ent}, Acc E → Rne l → Acc (insA E l)
  | [], _, h, _ => h
  | e :: l, E, h, hn => insA_acc (l := l) (h.ins e.1 (hn e (by simp))) fun x hx => hn x (by simp [hx])
theorem insA_len : ∀ {l E : List Ent}, Acc E → Rne l → (insA E l).length ≤ E.length + l.length ∧ ((insA E l).length = E.length + l.length ↔ (∀ e ∈ l, e.1 ∉ pthsE E) ∧ (pthsE l).Nodup)
  | [], E, h, _ => by simp [insA]
  | e :: l, E, h, hn => by
    have hr := hn e (by simp)
    obtain ⟨i1, i2⟩ := insA_len (l := l) (h.ins e.1 hr) fun x hx => hn x (by simp [hx])
    have hlen := insE_len (p := e.1) (r := e.2) h.rise hr
    have hgo : insA E (e :: l) = insA (insE E e.1 e.2) l := rfl
    have hp := fun q => insE_paths (p := e.1) (q := q) (r := e.2) h.rise h.rne hr
    rw [hgo, List.length_cons]
    by_cases c : e.1 ∈ pthsE E
    · rw [if_pos c] at hlen
      refine ⟨by omega, ⟨fun k => by omega, fun k => absurd c (k.1 e (by simp))⟩⟩
    · rw [if_neg c] at hlen
      refine ⟨by omega, ?_⟩
      have e1 : (insA (insE E e.1 e.2) l).length = E.length + (l.length + 1) ↔ (insA (insE E e.1 e.2) l).length = (insE E e.1 e.2).length + l.length := by omega
      rw [e1, i2]
      simp only [hp, pthsE, List.map_cons, List.nodup_cons, List.mem_cons, forall_eq_or_imp, not_or]
      constructor
      · rintro ⟨k1, k2⟩
        refine ⟨⟨c, fun x hx => (k1 x hx).2⟩, ⟨fun hm => ?_, k2⟩⟩
        obtain ⟨x, hx, hxe⟩ := List.mem_map.1 hm
        exact (k1 x hx).1 hxe
      · rintro ⟨⟨_, k1⟩, k2, k3⟩
        exact ⟨fun x hx => ⟨fun hxe => k2 (List.mem_map.2 ⟨x, hx, hxe⟩), k1 x hx⟩, k3⟩
theorem insA_look : ∀ {l E : List Ent} {q : List UInt8}, Acc E → Rne l → (pthsE l).Nodup → look (insA E l) q = if look l q = [] then look E q else look l q
  | [], E, q, _, _, _ => by simp [insA, look]
  | e :: l, E, q, h, hn, hd => by
    have hr := hn e (by simp)
    have hd' : e.1 ∉ pthsE l ∧ (pthsE l).Nodup := List.nodup_cons.1 hd
    have hgo : insA E (e :: l) = insA (insE E e.1 e.2) l := rfl
    rw [hgo, insA_look (h.ins e.1 hr) (fun x hx => hn x (by simp [hx])) hd'.2, look_ins h.rise, look]
    by_cases c : e.1 = q
    · subst c
      have : look l e.1 = [] := look_none fun x hx hp => hd'.1 (List.mem_map.2 ⟨x, hx, hp⟩)
      rw [this]; simp [hr]
    · have c2 : ¬ q = e.1 := fun k => c k.symm
      simp only [if_neg c2, if_neg c]
theorem look_perm {l m : List Ent} (h : l.Perm m) (hd : (pthsE l).Nodup) (q : Bys) : look l q = look m q := by
  have key : ∀ {F : List Ent}, (pthsE F).Nodup → ∀ e ∈ F, look F e.1 = e.2 := fun {F} => by
    induction F with
    | nil => intro _ e he; cases he
    | cons a r ih =>
      intro hF e he
      have hF' : a.1 ∉ pthsE r ∧ (pthsE r).Nodup := List.nodup_cons.1 hF
      rw [look]
      rcases List.mem_cons.1 he with rfl | he
      · rw [if_pos rfl]
      · rw [if_neg (fun k => hF'.1 (List.mem_map.2 ⟨e, he, k.symm⟩)), ih hF'.2 e he]
  have hm : (pthsE m).Nodup := ((h.map Prod.fst).nodup_iff).1 hd
  by_cases c : ∃ e ∈ l, e.1 = q
  · obtain ⟨e, he, rfl⟩ := c
    rw [key hd e he, key hm e (h.mem_iff.1 he)]
  · rw [look_none fun e he k => c ⟨e, he, k⟩, look_none fun e he k => c ⟨e, h.mem_iff.2 he, k⟩]
theorem insA_perm {l m : List Ent} (h : l.Perm m) (hn : Rne l) (hd : (pthsE l).Nodup) : insA [] l = insA [] m := by
  have hm : (pthsE m).Nodup := ((h.map Prod.fst).nodup_iff).1 hd
  have hmn : Rne m := fun e he => hn e (h.mem_iff.2 he)
  have a1 := insA_acc Acc.nil hn
  have a2 := insA_acc Acc.nil hmn
  refine rise_ext a1.rise a2.rise a1.rne a2.rne fun q => ?_
  rw [insA_look Acc.nil hn hd, insA_look Acc.nil hmn hm, look_perm h hd q]
def putA (t : Nd) (l : List Ent) : Nd := l.foldl (fun t e => putR t e.1 e.2) t
theorem goodE_iff {e : Ent} : goodE e = true ↔ isPath e.1 = true ∧ e.2 ≠ [] ∧ right e.2 = true := by
  simp [goodE, and_assoc]
theorem good_rne {l : List Ent} (h : l.all goodE = true) : Rne l := fun e he => (goodE_iff.1 (List.all_eq_true.1 h e he)).2.1
theorem putA_ent : ∀ {l : List Ent} {t : Nd}, okR t = true → l.all goodE = true → okR (putA t l) = true ∧ entR (putA t l) = insA (entR t) l
  | [], t, h, _ => ⟨h, rfl⟩
  | e :: l, t, h, hg => by
    rw [List.all_cons, Bool.and_eq_true] at hg
    obtain ⟨g1, g2, g3⟩ := goodE_iff.1 hg.1
    obtain ⟨p1, p2⟩ := isPath_iff.1 g1
    obtain ⟨k1, k2⟩ := putR_ok h p1 p2 g3
    obtain ⟨i1, i2⟩ := putA_ent (l := l) k1 hg.2
    refine ⟨i1, ?_⟩
    show entR (putA (putR t e.1 e.2) l) = _
    rw [i2, k2]; rfl
def sortE (l : List Ent) : List Ent := toEs (sortX (ents l))
theorem isEnts_ents (l : List Ent) : isEnts (ents l) = true := by simp [isEnts, ents, ee_ok]
theorem sortX_ents (l : List Ent) (h : l.length < 4611686018427387904) : sortX (ents l) = ents (sortE l) := by
  have hp := sortX_perm (ents l) (by rw [ents_length]; exact h)
  have : isEs (sortX (ents l)) = true := by
    unfold isEs
    rw [List.all_eq_true]
    intro x hx
    exact List.all_eq_true.1 (isEs_ents l) x (hp.mem_iff.1 hx)
  obtain ⟨m, hm⟩ := ents_ex this
  unfold sortE
  rw [hm, toEs_ents]
theorem sortE_perm (l : List Ent) (h : l.length < 4611686018427387904) : (sortE l).Perm l := by
  have hp := (sortX_perm (ents l) (by rw [ents_length]; exact h)).map dE
  have : List.map dE (ents l) = l := toEs_ents l
  rw [this] at hp
  exact hp
theorem sortE_le (l : List Ent) (h : l.length < 4611686018427387904) : (sortE l).Pairwise fun a b => Op.bytesLess b.1 a.1 = false := by
  have hs := (sortT_spec (tagE 0 (ents l)) (by rw [tagE_len, ents_length]; exact h))
  unfold sortE toEs sortX
  rw [List.map_map, List.pairwise_map]
  refine hs.2.imp_of_mem fun {a b} ha hb hab => ?_
  obtain ⟨h1, h2⟩ := tagE_mem (hs.1.mem_iff.1 ha)
  obtain ⟨h3, h4⟩ := tagE_mem (hs.1.mem_iff.1 hb)
  have e1 : ∀ (t : Tg) (hh : t.2 < (ents l).length), t.1 = ((ents l)[t.2].headD .pnil).st → (dE ((ents l).getD t.2 [])).1 = t.1 := fun t hh he => by
    rw [he, List.getD_eq_getElem?_getD, List.getElem?_eq_getElem hh]; rfl
  show Op.bytesLess (dE ((ents l).getD b.2 [])).1 (dE ((ents l).getD a.2 [])).1 = false
  rw [e1 a h1 h2, e1 b h3 h4]
  exact hab
theorem rise_nodup {l : List Ent} (h : Rise l) : (pthsE l).Nodup := by
  unfold pthsE
  rw [List.nodup_iff_pairwise_ne, List.pairwise_map]
  exact h.imp fun h => bl_ne h
def bldT (l : List Ent) : Nd := putA nd0 (sortE l)
def bldP (l : List Ent) : Nd × Int := if l.all goodE = true then (if (pthsE l).Nodup then (bldT l, 0) else (nd0, 16)) else (nd0, 2)
theorem all_perm {l m : List Ent} (h : l.Perm m) {f : Ent → Bool} (k : l.all f = true) : m.all f = true := by
  rw [List.all_eq_true] at k ⊢
  exact fun e he => k e (h.mem_iff.2 he)
theorem bldT_ent {l : List Ent} (h : l.all goodE = true) (hl : l.length < 4611686018427387904) (hd : (pthsE l).Nodup) : okR (bldT l) = true ∧ entR (bldT l) = insA [] l := by
  have hp := sortE_perm l hl
  obtain ⟨k1, k2⟩ := putA_ent (t := nd0) nd0_ok (all_perm hp.symm h)
  refine ⟨k1, k2.trans ?_⟩
  exact (insA_perm hp.symm (good_rne h) hd).symm
end Go.Proofs.YtgaabjmbnomimaaDoor
namespace Go.Proofs.YtgaabjmbnomimaaDoor
open Go Go.Ev
theorem f70 (p : Bys) (rn : OBo) (rt : Bool) (rs : List Row) : call E 70 [.agg [.c (.str p), .c (.sl 5 rn rt (rows rs))]] [] = some ([V.b (!goodE (p, rs))], []) := by
  refine call_of (E := E) (sh := sh) (ct := ctOf [(63, s63), (64, s64)]) (na := 1) (m := 0) (ctOf_cons s63_ok (ctOf_cons s64_ok ctOf_nil)) rfl rfl rfl rfl rfl rfl ?_
  rw [t70]
  simp only [ld_br, ld_chk', ld_leaf, fd_br, fd_chk', fd_leaf, decide_true, decide_eq_true_eq, if_true, Int.toNat_natCast, Int.natCast_nonneg, Int.ofNat_lt, Int.ofNat_le, Bool.false_eq_true, if_false, bne_iff_ne, beq_iff_eq, ne_eq, not_true_eq_false, not_false_eq_true, Bool.not_eq_true', decide_eq_false_iff_not, reduceCtorEq, rows_length, pcs_length, er_ok, er_ok', ep_ok, ep_ok', dr_er, dp_ep, isRows_rows, isPcs_pcs, toRows_rows, toPcs_pcs, rows_take, rows_drop, pcs_take, pcs_drop, rows_append, pcs_append, ints_length, isInts_ints, toInts_ints, ei_i, ei_ok, mk_headD, ints_take, ints_drop, ints_append, ints_snoc, ints_snoc', List.take_length, Nat.zero_add, Nat.le_refl, er_a, er_b, er_k, er_n, er_s, er_v, ep_a, ep_b, ep_hk, ep_hn, ep_hs, ep_wk, ep_wn, ep_ws, checkR_ne, goodE]
  have hz : ((rs.length : Int) = 0) ↔ rs = [] := by rw [← List.length_eq_zero_iff]; omega
  cases isPath p <;> by_cases h : rs = [] <;> simp [h, hz]
theorem s70_ok : CSpecOk E 70 s70 := by
  intro a h cs vals h' he hc
  unfold s70 at he
  split at he <;> simp only [Option.some.injEq, Prod.mk.injEq, reduceCtorEq] at he
  rename_i p rn rt xs
  obtain ⟨rfl, rfl, rfl⟩ := he
  simp only [allT, Bool.and_true, Bool.and_eq_true, decide_eq_true_eq] at hc
  obtain ⟨rs, rfl⟩ := rows_ex hc
  rw [toRows_rows]
  exact f70 p rn rt rs
theorem idxE_drop (f : Ent → Bool) {l : List Ent} {k : Nat} (j : Nat) (hk : k < l.length) : idxE f (l.drop k) j = if f l[k] = true then (j : Int) else idxE f (l.drop (k + 1)) (j + 1) := by
  rw [List.drop_eq_getElem_cons hk, idxE]
theorem f126 (nl : OBo) (tt : Bool) (l : List Ent) (hl : l.length ≤ 9223372036854775807) : call E 126 [.c (.sl 2 nl tt (ents l)), .fn 70 []] [] = some ([V.i (idxE (fun e => !goodE e) l 0)], []) := by
  have hct : (ctOf [(70, s70)]).ok E := ctOf_cons s70_ok ctOf_nil
  refine call_of (E := E) (sh := sh) (ct := ctOf [(70, s70)]) (na := 2) (m := 0) hct rfl rfl rfl rfl rfl rfl ?_
  rw [t126, ents_length]
  refine fd_post hct (by kernel_rfl) rfl (list_post (p := p126) hct (b := b126_0) l.length (fun k (_ : Unit) => s126_0 nl tt (ents l) l.length k) (fun k _ => idxE (fun e => !goodE e) (l.drop k) k = idxE (fun e => !goodE e) l 0) _ ?_ ?_ 0 (Nat.zero_le _) () rfl)
  · intro k _ hk hi
    rw [idxE_drop _ _ hk] at hi
    have go : p126.ld b126_0 (p126.lts b126_0 (s126_0 nl tt (ents l) l.length k)) = if (!goodE l[k]) = true then some (R.x (x126_0x0 k)) else some (R.s (s126_0 nl tt (ents l) l.length ((k + 1 : Nat) : Int))) := by
      rw [t126_0]
      have he : (l[k].1, l[k].2) = l[k] := rfl
      simp only [ld_br, ld_chk', ld_leaf, fd_br, fd_chk', fd_leaf, decide_true, decide_eq_true_eq, if_true, Int.toNat_natCast, Int.natCast_nonneg, Int.ofNat_lt, Int.ofNat_le, Bool.false_eq_true, if_false, bne_iff_ne, beq_iff_eq, ne_eq, not_true_eq_false, not_false_eq_true, Bool.not_eq_true', decide_eq_false_iff_not, reduceCtorEq, rows_length, pcs_length, er_ok, er_ok', ep_ok, ep_ok', dr_er, dp_ep, isRows_rows, isPcs_pcs, toRows_rows, toPcs_pcs, rows_take, rows_drop, pcs_take, pcs_drop, rows_append, pcs_append, ints_length, isInts_ints, toInts_ints, ei_i, ei_ok, mk_headD, ints_take, ints_drop, ints_append, ints_snoc, ints_snoc', List.take_length, Nat.zero_add, Nat.le_refl, er_a, er_b, er_k, er_n, er_s, er_v, ep_a, ep_b, ep_hk, ep_hn, ep_hs, ep_wk, ep_wn, ep_ws, ents_length, hk, ents_getD hk, ee_ok, ee_p, ee_r, he, wrap_succ (show k < 9223372036854775807 by omega)]
    cases c : goodE l[k] with
    | true =>
      rw [c] at hi go
      exact .inl ⟨(), by simpa using hi, by rw [go]; rfl⟩
    | false =>
      rw [c] at hi go
      refine .inr ⟨x126_0x0 k, by simp, ?_, by rw [go]; rfl⟩
      rw [k126_0x0, fd_leaf, ← hi]; rfl
  · intro _ hi
    rw [List.drop_length] at hi
    refine ⟨x126_0x1 nl tt (ents l) l.length l.length, by simp, by rw [k126_0x1, fd_leaf, ← hi]; rfl, ?_⟩
    rw [t126_0]
    simp only [ld_br, ld_chk', ld_leaf, fd_br, fd_chk', fd_leaf, decide_true, decide_eq_true_eq, if_true, Int.toNat_natCast, Int.natCast_nonneg, Int.ofNat_lt, Int.ofNat_le, Bool.false_eq_true, if_false, bne_iff_ne, beq_iff_eq, ne_eq, not_true_eq_false, not_false_eq_true, Bool.not_eq_true', decide_eq_false_iff_not, reduceCtorEq, rows_length, pcs_length, er_ok, er_ok', ep_ok, ep_ok', dr_er, dp_ep, isRows_rows, isPcs_pcs, toRows_rows, toPcs_pcs, rows_take, rows_drop, pcs_take, pcs_drop, rows_append, pcs_append, ints_length, isInts_ints, toInts_ints, ei_i, ei_ok, mk_headD, ints_take, ints_drop, ints_append, ints_snoc, ints_snoc', List.take_length, Nat.zero_add, Nat.le_refl, er_a, er_b, er_k, er_n, er_s, er_v, ep_a, ep_b, ep_hk, ep_hn, ep_hs, ep_wk, ep_wn, ep_ws, Int.lt_irrefl]
theorem s126_ok : CSpecOk E 126 s126 := by
  intro a h cs vals h' he hc
  unfold s126 at he
  split at he <;> simp only [Option.some.injEq, Prod.mk.injEq, reduceCtorEq] at he
  rename_i nl tt xs
  obtain ⟨rfl, rfl, rfl⟩ := he
  simp only [allT, Bool.and_true, Bool.and_eq_true, decide_eq_true_eq] at hc
  obtain ⟨h1, h2⟩ := hc
  obtain ⟨l, rfl⟩ := ents_ex h1
  rw [ents_length] at h2
  rw [toEs_ents]
  exact f126 nl tt l h2
theorem idxE_all (f : Ent → Bool) (l : List Ent) (j : Nat) : decide (0 ≤ idxE (fun e => !f e) l j) = !l.all f := by
  induction l generalizing j with
  | nil => rfl
  | cons t r ih =>
    rw [idxE, List.all_cons]
    cases c : f t with
    | true => simpa using ih (j + 1)
    | false => simp
theorem f71 (nl : OBo) (tt : Bool) (l : List Ent) (hl : l.length ≤ 9223372036854775807) : call E 71 [.c (.sl 2 nl tt (ents l)), .fn 70 []] [] = some ([V.b (!l.all goodE)], []) := by
  refine call_of (E := E) (sh := sh) (ct := ctOf [(126, s126)]) (na := 2) (m := 0) (ctOf_cons s126_ok ctOf_nil) rfl rfl rfl rfl rfl rfl ?_
  rw [t71]
  simp only [ld_br, ld_chk', ld_leaf, fd_br, fd_chk', fd_leaf, decide_true, decide_eq_true_eq, if_true, Int.toNat_natCast, Int.natCast_nonneg, Int.ofNat_lt, Int.ofNat_le, Bool.false_eq_true, if_false, bne_iff_ne, beq_iff_eq, ne_eq, not_true_eq_false, not_false_eq_true, Bool.not_eq_true', decide_eq_false_iff_not, reduceCtorEq, rows_length, pcs_length, er_ok, er_ok', ep_ok, ep_ok', dr_er, dp_ep, isRows_rows, isPcs_pcs, toRows_rows, toPcs_pcs, rows_take, rows_drop, pcs_take, pcs_drop, rows_append, pcs_append, ints_length, isInts_ints, toInts_ints, ei_i, ei_ok, mk_headD, ints_take, ints_drop, ints_append, ints_snoc, ints_snoc', List.take_length, Nat.zero_add, Nat.le_refl, er_a, er_b, er_k, er_n, er_s, er_v, ep_a, ep_b, ep_hk, ep_hn, ep_hs, ep_wk, ep_wn, ep_ws, ents_length, isEs_ents, toEs_ents, hl, idxE_all goodE]
theorem s71_ok : CSpecOk E 71 s71 := by
  intro a h cs vals h' he hc
  unfold s71 at he
  split at he <;> simp only [Option.some.injEq, Prod.mk.injEq, reduceCtorEq] at he
  rename_i nl tt xs
  obtain ⟨rfl, rfl, rfl⟩ := he
  simp only [allT, Bool.and_true, Bool.and_eq_true, decide_eq_true_eq] at hc
  obtain ⟨h1, h2⟩ := hc
  obtain ⟨l, rfl⟩ := ents_ex h1
  rw [ents_length] at h2
  rw [toEs_ents]
  exact f71 nl tt l h2
theorem hct30 : (ctOf [(65, s65 25), (71, s71), (72, s72), (73, s73)]).ok E := ctOf_cons (s65_ok 25) (ctOf_cons s71_ok (ctOf_cons s72_ok (ctOf_cons s73_ok ctOf_nil)))
theorem ee_take1 (e : Ent) : List.take 1 (List.drop 0 (ee e)) = [C.str e.1] := rfl
theorem ee_take2 (e : Ent) : List.take 2 (ee e) = ee e := rfl
theorem ee_length (e : Ent) : (ee e).length = 2 := rfl
theorem rise_snoc {l : List Ent} {k : Nat} (h : k < l.length) (hr : Rise (l.take k)) (hs : l.Pairwise fun a b => Op.bytesLess b.1 a.1 = false) (hne : ∀ h0 : 0 < k, l[k - 1].1 ≠ l[k].1) : Rise (l.take (k + 1)) := by
  rw [List.take_succ_eq_append_getElem h, Rise, List.pairwise_append]
  refine ⟨hr, by simp, fun a ha b hb => ?_⟩
  simp only [List.mem_singleton] at hb; subst hb
  obtain ⟨j, hj, rfl⟩ := List.mem_iff_getElem.1 ha
  rw [List.length_take] at hj
  rw [List.getElem_take]
  have hjk : j < k := by omega
  have hlast : Op.bytesLess l[k - 1].1 l[k].1 = true := bl_gt (List.pairwise_iff_getElem.1 hs (k - 1) k (by omega) h (by omega)) (fun e => hne (by omega) e.symm)
  rcases Nat.lt_or_ge j (k - 1) with hlt | hge
  · have hjl : Op.bytesLess l[j].1 l[k - 1].1 = true := by
      have := List.pairwise_iff_getElem.1 hr j (k - 1) (by rw [List.length_take]; omega) (by rw [List.length_take]; omega) hlt
      rw [List.getElem_take, List.getElem_take] at this; exact this
    exact bl_trans hjl hlast
  · have : j = k - 1 := by omega
    subst this; exact hlast
theorem f30 (nl : OBo) (tt : Bool) (l : List Ent) (hl : l.length < 4294967290) : call E 30 [.c (.sl 2 nl tt (ents l))] [] = some ([VT (bldP l).1, V.i (bldP l).2], []) := by
  refine call_of (E := E) (sh := sh) (ct := ctOf [(65, s65 25), (71, s71), (72, s72), (73, s73)]) (na := 1) (m := 0) hct30 rfl rfl rfl rfl rfl rfl ?_
  show p30.fd (p30.ft _ _) = _
  rw [t30]
  have h1 : l.length ≤ 9223372036854775807 := by omega
  have h2 : l.length < 4294967296 := by omega
  have h3 : l.length < 4611686018427387904 := by omega
  simp only [fd_br, fd_chk', fd_leaf, if_true, ents_length, isEs_ents, isEnts_ents, toEs_ents, h1, h2, decide_true, sortX_ents l h3, Bool.not_eq_true']
  unfold bldP
  by_cases hg : l.all goodE = false
  · rw [if_pos hg, if_neg (by rw [hg]; simp)]; rfl
  rw [if_neg hg]
  rw [Bool.not_eq_false] at hg
  rw [if_pos hg]
  have hp := sortE_perm l h3
  have hs := sortE_le l h3
  have hgs := all_perm hp.symm hg
  have hlen : (sortE l).length = l.length := hp.length_eq
  have hnd : (pthsE (sortE l)).Nodup ↔ (pthsE l).Nodup := (hp.map Prod.fst).nodup_iff
  rw [← hlen]
  have hl' : (sortE l).length < 4294967290 := by omega
  unfold bldT
  simp only [← hnd]
  generalize sortE l = S at *
  have key : ∃ x, p30.fd (p30.fkx 0 x) = some (.out [VT (if (pthsE S).Nodup then (putA nd0 S, (0 : Int)) else (nd0, 16)).1, V.i (if (pthsE S).Nodup then (putA nd0 S, (0 : Int)) else (nd0, 16)).2] []) ∧ p30.Loops b30_0 (s30_0 S.length S.length S.length 0 [] (some true) true [] (some true) true [] (ents S) [] (some true) true [] (some true) true []) x := by
    refine list_post (p := p30) hct30 (b := b30_0) S.length (fun k (s : Nd × Option Bool × Bool × Option Bool × Bool) => s30_0 S.length S.length S.length k [] (some true) true [] (some true) true [] (ents S) s.1.lab s.2.1 s.2.2.1 (rows s.1.rows) s.2.2.2.1 s.2.2.2.2 (encL s.1.kids))
      (fun k s => s.1 = putA nd0 (S.take k) ∧ Rise (S.take k)) (fun x => p30.fd (p30.fkx 0 x) = _) ?_ ?_ 0 (Nat.zero_le _) (nd0, some true, true, some true, true) ⟨rfl, .nil⟩
    · rintro k ⟨t, rn, rt, kn, kt⟩ hk ⟨ht, hr⟩
      dsimp only at ht ⊢
      have hge := goodE_iff.1 (List.all_eq_true.1 hgs _ (List.getElem_mem hk))
      obtain ⟨g1, g2, g3⟩ := hge
      obtain ⟨q1, q2⟩ := isPath_iff.1 g1
      have hgt : (S.take k).all goodE = true := by
        rw [List.all_eq_true] at hgs ⊢
        exact fun e he => hgs e (List.mem_of_mem_take he)
      have hok : okR t = true := by rw [ht]; exact (putA_ent nd0_ok hgt).1
      obtain ⟨o1, o2, o3⟩ := okR_iff.1 hok
      have hkl : okL t.kids 24 (-1) = true := okL_iff'.2 o3
      have hlab : t.lab.length ≤ 24 := by rw [o1]; simp
      have hrr : right t.rows = true := by rw [o2]; rfl
      have hput : putN (S[k].1.length + 1) t S[k].1 S[k].2 = putR t S[k].1 S[k].2 := rfl
      have hnext : putR t S[k].1 S[k].2 = putA nd0 (S.take (k + 1)) := by
        rw [ht, List.take_succ_eq_append_getElem hk]
        unfold putA
        rw [List.foldl_append]; rfl
      have h0k : 0 + k < S.length := by omega
      have h0e : 0 + k = k := Nat.zero_add k
      have ql : S[k].1.length < 25 := by omega
      by_cases h0 : 0 < k
      · have hk1 : k - 1 < S.length := by omega
        have hw : IntKind.wrap .i64 ((k : Int) - 1) = ((k - 1 : Nat) : Int) := wrap_pred h0 (by omega)
        have h0' : (0 : Int) < (k : Nat) := by omega
        have h0k1 : ((k - 1 : Nat) : Int) < (S.length : Nat) := by omega
        have hle2 : 1 ≤ 2 := by decide
        by_cases he : S[k - 1].1 = S[k].1
        · right
          refine ⟨x30_0x0 (ents S) t.lab rn rt (rows t.rows) kn kt (encL t.kids) S[k].1 none (rows S[k].2), by simp, ?_, ?_⟩
          · have hno : ¬ (pthsE S).Nodup := fun hn => by
              rw [List.nodup_iff_pairwise_ne] at hn
              have := List.pairwise_iff_getElem.1 hn (k - 1) k (by simpa using hk1) (by simpa using hk) (by omega)
              simp only [pthsE, List.getElem_map] at this
              exact this he
            rw [k30_0x0, fd_leaf, if_neg hno]; rfl
          · rw [t30_0]
            simp only [c30_0_1, c30_0_2, nd_ok, nd_lab, nd_rows, nd_kids, encL_length, isL_enc, decL_enc, wrap_hd, hd_pos, ld_br, ld_chk', ld_leaf, fd_br, fd_chk', fd_leaf, decide_true, decide_eq_true_eq, if_true, Int.toNat_natCast, Int.natCast_nonneg, Int.ofNat_lt, Int.ofNat_le, Bool.false_eq_true, if_false, bne_iff_ne, beq_iff_eq, ne_eq, not_true_eq_false, not_false_eq_true, Bool.not_eq_true', decide_eq_false_iff_not, reduceCtorEq, rows_length, pcs_length, er_ok, er_ok', ep_ok, ep_ok', dr_er, dp_ep, isRows_rows, isPcs_pcs, toRows_rows, toPcs_pcs, rows_take, rows_drop, pcs_take, pcs_drop, rows_append, pcs_append, ints_length, isInts_ints, toInts_ints, ei_i, ei_ok, mk_headD, ints_take, ints_drop, ints_append, ints_snoc, ints_snoc', List.take_length, Nat.zero_add, Nat.le_refl, er_a, er_b, er_k, er_n, er_s, er_v, ep_a, ep_b, ep_hk, ep_hn, ep_hs, ep_wk, ep_wn, ep_ws, ents_length, hk, ents_getD hk, ents_getD hk1, hw, h0', hk1, h0k1, ee_take1, ee_take2, ee_length, hle2, str_ok, str_hd, ee_ok, ee_p, ee_r, he, beq_self_eq_true]
        · left
          refine ⟨(putR t S[k].1 S[k].2, none, false, none, false), ⟨hnext, rise_snoc hk hr hs fun _ => he⟩, ?_⟩
          rw [t30_0]
          simp only [c30_0_1, c30_0_2, nd_ok, nd_lab, nd_rows, nd_kids, encL_length, isL_enc, decL_enc, wrap_hd, hd_pos, ld_br, ld_chk', ld_leaf, fd_br, fd_chk', fd_leaf, decide_true, decide_eq_true_eq, if_true, Int.toNat_natCast, Int.natCast_nonneg, Int.ofNat_lt, Int.ofNat_le, Bool.false_eq_true, if_false, bne_iff_ne, beq_iff_eq, ne_eq, not_true_eq_false, not_false_eq_true, Bool.not_eq_true', decide_eq_false_iff_not, reduceCtorEq, rows_length, pcs_length, er_ok, er_ok', ep_ok, ep_ok', dr_er, dp_ep, isRows_rows, isPcs_pcs, toRows_rows, toPcs_pcs, rows_take, rows_drop, pcs_take, pcs_drop, rows_append, pcs_append, ints_length, isInts_ints, toInts_ints, ei_i, ei_ok, mk_headD, ints_take, ints_drop, ints_append, ints_snoc, ints_snoc', List.take_length, Nat.zero_add, Nat.le_refl, er_a, er_b, er_k, er_n, er_s, er_v, ep_a, ep_b, ep_hk, ep_hn, ep_hs, ep_wk, ep_wn, ep_ws, Nd.eta, ents_length, hk, ents_getD hk, ents_getD hk1, hw, h0', hk1, h0k1, ee_take1, ee_take2, ee_length, hle2, str_ok, str_hd, ee_ok, ee_p, ee_r, he, hkl, hrr, g3, hlab, ql, q2, hput, wrap_succ (show k < 9223372036854775807 by omega)]
      · have hk0 : k = 0 := by omega
        subst hk0
        left
        refine ⟨(putR t S[0].1 S[0].2, none, false, none, false), ⟨hnext, rise_snoc hk hr hs fun h => absurd h (Nat.lt_irrefl 0)⟩, ?_⟩
        rw [t30_0]
        have hz : ¬ ((0 : Int) < ((0 : Nat) : Int)) := by omega
        simp only [c30_0_1, c30_0_2, nd_ok, nd_lab, nd_rows, nd_kids, encL_length, isL_enc, decL_enc, wrap_hd, hd_pos, ld_br, ld_chk', ld_leaf, fd_br, fd_chk', fd_leaf, decide_true, decide_eq_true_eq, if_true, Int.toNat_natCast, Int.natCast_nonneg, Int.ofNat_lt, Int.ofNat_le, Bool.false_eq_true, if_false, bne_iff_ne, beq_iff_eq, ne_eq, not_true_eq_false, not_false_eq_true, Bool.not_eq_true', decide_eq_false_iff_not, reduceCtorEq, rows_length, pcs_length, er_ok, er_ok', ep_ok, ep_ok', dr_er, dp_ep, isRows_rows, isPcs_pcs, toRows_rows, toPcs_pcs, rows_take, rows_drop, pcs_take, pcs_drop, rows_append, pcs_append, ints_length, isInts_ints, toInts_ints, ei_i, ei_ok, mk_headD, ints_take, ints_drop, ints_append, ints_snoc, ints_snoc', List.take_length, Nat.zero_add, Nat.le_refl, er_a, er_b, er_k, er_n, er_s, er_v, ep_a, ep_b, ep_hk, ep_hn, ep_hs, ep_wk, ep_wn, ep_ws, Nd.eta, ents_length, hk, ents_getD hk, hz, ee_take2, ee_length, ee_ok, ee_p, ee_r, hkl, hrr, g3, hlab, ql, q2, hput, wrap_succ (show 0 < 9223372036854775807 by omega)]
    · rintro ⟨t, rn, rt, kn, kt⟩ ⟨ht, hr⟩
      dsimp only at ht ⊢
      rw [List.take_length] at ht hr
      refine ⟨x30_0x1 S.length S.length S.length S.length [] (some true) true [] (some true) true [] (ents S) t.lab rn rt (rows t.rows) kn kt (encL t.kids), by simp, ?_, ?_⟩
      · rw [k30_0x1, fd_leaf, if_pos (rise_nodup hr), ← ht]
      · rw [t30_0]; simp only [nd_ok, nd_lab, nd_rows, nd_kids, encL_length, isL_enc, decL_enc, wrap_hd, hd_pos, ld_br, ld_chk', ld_leaf, fd_br, fd_chk', fd_leaf, decide_true, decide_eq_true_eq, if_true, Int.toNat_natCast, Int.natCast_nonneg, Int.ofNat_lt, Int.ofNat_le, Bool.false_eq_true, if_false, bne_iff_ne, beq_iff_eq, ne_eq, not_true_eq_false, not_false_eq_true, Bool.not_eq_true', decide_eq_false_iff_not, reduceCtorEq, rows_length, pcs_length, er_ok, er_ok', ep_ok, ep_ok', dr_er, dp_ep, isRows_rows, isPcs_pcs, toRows_rows, toPcs_pcs, rows_take, rows_drop, pcs_take, pcs_drop, rows_append, pcs_append, ints_length, isInts_ints, toInts_ints, ei_i, ei_ok, mk_headD, ints_take, ints_drop, ints_append, ints_snoc, ints_snoc', List.take_length, Nat.zero_add, Nat.le_refl, er_a, er_b, er_k, er_n, er_s, er_v, ep_a, ep_b, ep_hk, ep_hn, ep_hs, ep_wk, ep_wn, ep_ws, Int.lt_irrefl]
  refine fd_post hct30 (by kernel_rfl) (by split <;> rfl) key
end Go.Proofs.YtgaabjmbnomimaaDoor
namespace Go.Proofs.YtgaabjmbnomimaaDoor
open Go Go.Ev
def fewE' (l : List Ent) : Bool := decide (l.length ≤ 60) && l.all fun e => decide (e.1.length ≤ 100) && shortR e.2
theorem f29 (nl : OBo) (tt : Bool) (l : List Ent) : call E 29 [.c (.sl 2 nl tt (ents l))] [] = some ([V.b (fewE' l)], []) := by
  have hct : (ctOf [(23, s23)]).ok E := ctOf_cons s23_ok ctOf_nil
  refine call_of (E := E) (sh := sh) (ct := ctOf [(23, s23)]) (na := 1) (m := 0) hct rfl rfl rfl rfl rfl rfl ?_
  rw [t29, ents_length, fd_br]
  unfold fewE'
  by_cases c0 : (60 : Int) < l.length
  · rw [if_pos (by simpa using c0), fd_leaf]
    have : ¬ l.length ≤ 60 := by omega
    simp [this]
  rw [if_neg (by simpa using c0)]
  have c0' : l.length ≤ 60 := by omega
  simp only [c0', decide_true, Bool.true_and]
  refine fd_post hct (by kernel_rfl) rfl (list_post (p := p29) hct (b := b29_0) l.length (fun k (_ : Unit) => s29_0 nl tt (ents l) k) (fun k _ => ((l.drop k).all fun e => decide (e.1.length ≤ 100) && shortR e.2) = (l.all fun e => decide (e.1.length ≤ 100) && shortR e.2)) _ ?_ ?_ 0 (Nat.zero_le _) () rfl)
  · intro k _ hk hi
    rw [List.drop_eq_getElem_cons hk, List.all_cons] at hi
    have go : p29.ld b29_0 (p29.lts b29_0 (s29_0 nl tt (ents l) k)) = if (decide (l[k].1.length ≤ 100) && shortR l[k].2) = true then some (R.s (s29_0 nl tt (ents l) ((k + 1 : Nat) : Int))) else some (R.x x29_0x0) := by
      rw [t29_0]
      simp only [ld_br, ld_chk', ld_leaf, fd_br, fd_chk', fd_leaf, decide_true, decide_eq_true_eq, if_true, Int.toNat_natCast, Int.natCast_nonneg, Int.ofNat_lt, Int.ofNat_le, Bool.false_eq_true, if_false, bne_iff_ne, beq_iff_eq, ne_eq, not_true_eq_false, not_false_eq_true, Bool.not_eq_true', decide_eq_false_iff_not, reduceCtorEq, rows_length, pcs_length, er_ok, er_ok', ep_ok, ep_ok', dr_er, dp_ep, isRows_rows, isPcs_pcs, toRows_rows, toPcs_pcs, rows_take, rows_drop, pcs_take, pcs_drop, rows_append, pcs_append, ints_length, isInts_ints, toInts_ints, ei_i, ei_ok, mk_headD, ints_take, ints_drop, ints_append, ints_snoc, ints_snoc', List.take_length, Nat.zero_add, Nat.le_refl, er_a, er_b, er_k, er_n, er_s, er_v, ep_a, ep_b, ep_hk, ep_hn, ep_hs, ep_wk, ep_wn, ep_ws, ents_length, hk, ents_getD hk, ee_ok, ee_p, ee_r, wrap_succ (show k < 9223372036854775807 by omega)]
      by_cases c : (100 : Int) < l[k].1.length
      · have : ¬ l[k].1.length ≤ 100 := by omega
        simp [c, this]
      · have : l[k].1.length ≤ 100 := by omega
        cases hs : shortR l[k].2 <;> simp [c, this]
    cases c : (decide (l[k].1.length ≤ 100) && shortR l[k].2) with
    | true =>
      rw [c, if_pos rfl] at go
      rw [c, Bool.true_and] at hi
      exact .inl ⟨(), hi, go⟩
    | false =>
      rw [c, if_neg (by simp)] at go
      rw [c, Bool.false_and] at hi
      refine .inr ⟨x29_0x0, by simp, by rw [k29_0x0, fd_leaf, ← hi], go⟩
  · intro _ hi
    rw [List.drop_length, List.all_nil] at hi
    refine ⟨x29_0x1 nl tt (ents l) l.length, by simp, by rw [k29_0x1, fd_leaf, ← hi], ?_⟩
    rw [t29_0]; simp only [ld_br, ld_chk', ld_leaf, fd_br, fd_chk', fd_leaf, decide_true, decide_eq_true_eq, if_true, Int.toNat_natCast, Int.natCast_nonneg, Int.ofNat_lt, Int.ofNat_le, Bool.false_eq_true, if_false, bne_iff_ne, beq_iff_eq, ne_eq, not_true_eq_false, not_false_eq_true, Bool.not_eq_true', decide_eq_false_iff_not, reduceCtorEq, rows_length, pcs_length, er_ok, er_ok', ep_ok, ep_ok', dr_er, dp_ep, isRows_rows, isPcs_pcs, toRows_rows, toPcs_pcs, rows_take, rows_drop, pcs_take, pcs_drop, rows_append, pcs_append, ints_length, isInts_ints, toInts_ints, ei_i, ei_ok, mk_headD, ints_take, ints_drop, ints_append, ints_snoc, ints_snoc', List.take_length, Nat.zero_add, Nat.le_refl, er_a, er_b, er_k, er_n, er_s, er_v, ep_a, ep_b, ep_hk, ep_hn, ep_hs, ep_wk, ep_wn, ep_ws, ents_length, Int.lt_irrefl]
end Go.Proofs.YtgaabjmbnomimaaDoor
namespace Go.Proofs.YtgaabjmbnomimaaDoor
open Go Go.Ev
def rowsLen (l : List Ent) : Bool := l.all fun e => decide (e.2.length ≤ 9223372036854775807)
def s30 : CSpec := fun a h => match a, h with
  | [.c (.sl 2 nl tt xs)], [] => some ([isEs xs, decide (xs.length < 4294967290)], [VT (bldP (toEs xs)).1, V.i (bldP (toEs xs)).2], [])
  | _, _ => none
def s29 : CSpec := fun a h => match a, h with
  | [.c (.sl 2 nl tt xs)], [] => some ([isEs xs], [V.b (fewE' (toEs xs))], [])
  | _, _ => none
theorem s30_ok : CSpecOk E 30 s30 := by
  intro a h cs vals h' he hc
  unfold s30 at he
  split at he <;> simp only [Option.some.injEq, Prod.mk.injEq, reduceCtorEq] at he
  rename_i nl tt xs
  obtain ⟨rfl, rfl, rfl⟩ := he
  simp only [allT, Bool.and_true, Bool.and_eq_true, decide_eq_true_eq] at hc
  obtain ⟨h1, h2⟩ := hc
  obtain ⟨l, rfl⟩ := ents_ex h1
  rw [ents_length] at h2
  rw [toEs_ents]
  exact f30 nl tt l h2
theorem s29_ok : CSpecOk E 29 s29 := by
  intro a h cs vals h' he hc
  unfold s29 at he
  split at he <;> simp only [Option.some.injEq, Prod.mk.injEq, reduceCtorEq] at he
  rename_i nl tt xs
  obtain ⟨rfl, rfl, rfl⟩ := he
  simp only [allT, Bool.and_true, Bool.and_eq_true, decide_eq_true_eq] at hc
  obtain ⟨l, rfl⟩ := ents_ex hc
  rw [toEs_ents]
  exact f29 nl tt l
end Go.Proofs.YtgaabjmbnomimaaDoor
namespace Go.Proofs.YtgaabjmbnomimaaDoor
open Go Go.Ev
set_option maxRecDepth 100000
theorem rdE : ∀ (n : Nat) (xs : List C), Rd Tryd.prog n 55 xs → ∃ l : List Ent, xs = [.sl 2 none false (ents l)] ∧ l.length ≤ maxLen ∧ rowsLen l = true
  | 0, xs, h => h.elim
  | n + 1, xs, h => by
    rw [Rd, Tryd.underlying55] at h
    obtain ⟨ys, rfl, hq, hy⟩ := h
    have hz : Tryd.prog.cellsOf 65 = 2 := by kernel_rfl
    have : ∃ l : List Ent, ys = ents l ∧ rowsLen l = true := by
      clear hq
      induction ys with
      | nil => exact ⟨[], rfl, rfl⟩
      | cons y r ih =>
        obtain ⟨l, rfl, hl⟩ := ih (fun z hz => hy z (by simp [hz]))
        have h1 := hy y (by simp)
        cases n with
        | zero => exact h1.elim
        | succ n =>
          rw [Rd, Tryd.underlying65] at h1
          obtain ⟨parts, hl2, rfl, hp⟩ := h1
          match parts, hl2 with
          | [p, q], _ =>
            obtain ⟨s, rfl, h2⟩ := rdSl Tryd.underlying9 (hp 0 _ p rfl rfl)
            obtain ⟨rs, rfl, h3⟩ := rdRows (hp 1 _ q rfl rfl)
            refine ⟨(s, rs) :: l, rfl, ?_⟩
            rw [rowsLen, List.all_cons, show (l.all fun e => decide (e.2.length ≤ 9223372036854775807)) = true from hl, Bool.and_true]
            have hm : maxLen ≤ 9223372036854775807 := by decide
            exact decide_eq_true (by show rs.length ≤ _; omega)
    obtain ⟨l, rfl, hl⟩ := this
    exact ⟨l, by rw [hz], by rw [ents_length] at hq; exact hq, hl⟩
structure Le where
  l : List Ent
  ok : l.length ≤ maxLen
  rl : rowsLen l = true
theorem ar55 {v : V} {vl : List V} {ts : List TypeId} (h : Args Tryd.prog (55 :: ts) (v :: vl)) : (∃ x : Le, v = .c (.sl 2 none false (ents x.l))) ∧ Args Tryd.prog ts vl :=
  arC (fun x : Le => .sl 2 none false (ents x.l)) (by kernel_rfl) (fun h => by obtain ⟨l, h1, h2, h3⟩ := rdE _ _ h; exact ⟨⟨l, h2, h3⟩, h1⟩) h
end Go.Proofs.YtgaabjmbnomimaaDoor
namespace Go.Proofs.YtgaabjmbnomimaaDoor
open Go Go.Ev
-- cse
noncomputable abbrev p8 : Par := par E sh (ctOf [(17, s17n), (24, s24), (25, s25), (29, s29), (30, s30), (34, s34)]) 8 2 0
abbrev s8_0 (zs : LLC) (ws : LLC) (nl0 : OBo) (t0 : Bool) (nl1 : OBo) (t1 : Bool) (i7 : Int) (sh0 : Bys) (nlh0 : OBo) (th0 : Bool) (xsh0 : LLC) (nlh0_1 : OBo) (th0_1 : Bool) (xsh0_1 : LLC) : Fr × Hp := ([(0, V.c (C.sl 2 nl0 t0 zs)), (1, V.c (C.sl 2 nl1 t1 ws)), (5, V.ptr 0 0 0 0), (7, V.c (C.int IntKind.i64 i7))], [O.box [V.c (C.str sh0), V.c (C.sl 5 nlh0 th0 xsh0), V.c (C.sl 3 nlh0_1 th0_1 xsh0_1)]])
noncomputable abbrev b8_0 : Code := loopAt (codeOf E (8)) 0
abbrev s8_0_0 (zs : LLC) (ws : LLC) (nl0 : OBo) (t0 : Bool) (nl1 : OBo) (t1 : Bool) (i7 : Int) (sh0 : Bys) (nlh0 : OBo) (th0 : Bool) (xsh0 : LLC) (nlh0_1 : OBo) (th0_1 : Bool) (xsh0_1 : LLC) (i8 : Int) : Fr × Hp := ([(0, V.c (C.sl 2 nl0 t0 zs)), (1, V.c (C.sl 2 nl1 t1 ws)), (5, V.ptr 0 0 0 0), (7, V.c (C.int IntKind.i64 i7)), (8, V.c (C.int IntKind.i64 i8))], [O.box [V.c (C.str sh0), V.c (C.sl 5 nlh0 th0 xsh0), V.c (C.sl 3 nlh0_1 th0_1 xsh0_1)]])
noncomputable abbrev b8_0_0 : Code := loopAt b8_0 0
abbrev x8_0_0x0 (sh0 : Bys) (nlh0 : OBo) (th0 : Bool) (xsh0 : LLC) (nlh0_1 : OBo) (th0_1 : Bool) (xsh0_1 : LLC) : Ex × Fr × Hp := (Ex.ret, [(4, V.c (C.bool true))], [O.box [V.c (C.str sh0), V.c (C.sl 5 nlh0 th0 xsh0), V.c (C.sl 3 nlh0_1 th0_1 xsh0_1)]])
abbrev x8_0_0x1 (zs : LLC) (ws : LLC) (nl0 : OBo) (t0 : Bool) (nl1 : OBo) (t1 : Bool) (i7 : Int) (sh0 : Bys) (nlh0 : OBo) (th0 : Bool) (xsh0 : LLC) (nlh0_1 : OBo) (th0_1 : Bool) (xsh0_1 : LLC) (i8 : Int) : Ex × Fr × Hp := (Ex.exit 2, [(0, V.c (C.sl 2 nl0 t0 zs)), (1, V.c (C.sl 2 nl1 t1 ws)), (5, V.ptr 0 0 0 0), (7, V.c (C.int IntKind.i64 i7)), (8, V.c (C.int IntKind.i64 i8)), (50, V.c (C.bool false))], [O.box [V.c (C.str sh0), V.c (C.sl 5 nlh0 th0 xsh0), V.c (C.sl 3 nlh0_1 th0_1 xsh0_1)]])
abbrev x8_0x0 (sh0 : Bys) (nlh0 : OBo) (th0 : Bool) (xsh0 : LLC) (nlh0_1 : OBo) (th0_1 : Bool) (xsh0_1 : LLC) : Ex × Fr × Hp := (Ex.ret, [(4, V.c (C.bool true))], [O.box [V.c (C.str sh0), V.c (C.sl 5 nlh0 th0 xsh0), V.c (C.sl 3 nlh0_1 th0_1 xsh0_1)]])
abbrev x8_0x1 (zs : LLC) (ws : LLC) (nl0 : OBo) (t0 : Bool) (nl1 : OBo) (t1 : Bool) (i7 : Int) (sh0 : Bys) (nlh0 : OBo) (th0 : Bool) (xsh0 : LLC) (nlh0_1 : OBo) (th0_1 : Bool) (xsh0_1 : LLC) : Ex × Fr × Hp := (Ex.exit 0, [(0, V.c (C.sl 2 nl0 t0 zs)), (1, V.c (C.sl 2 nl1 t1 ws)), (5, V.ptr 0 0 0 0), (7, V.c (C.int IntKind.i64 i7)), (44, V.c (C.bool false))], [O.box [V.c (C.str sh0), V.c (C.sl 5 nlh0 th0 xsh0), V.c (C.sl 3 nlh0_1 th0_1 xsh0_1)]])
abbrev s8_1 (zs : LLC) (ws : LLC) (nl0 : OBo) (t0 : Bool) (nl1 : OBo) (t1 : Bool) (sh0 : Bys) (nlh0 : OBo) (th0 : Bool) (xsh0 : LLC) (nlh0_1 : OBo) (th0_1 : Bool) (xsh0_1 : LLC) (i11 : Int) (sh1 : Bys) (nlh1 : OBo) (th1 : Bool) (xsh1 : LLC) (nlh1_1 : OBo) (th1_1 : Bool) (xsh1_1 : LLC) (sh2 : Bys) (nlh2 : OBo) (th2 : Bool) (xsh2 : LLC) (nlh2_1 : OBo) (th2_1 : Bool) (xsh2_1 : LLC) : Fr × Hp := ([(0, V.c (C.sl 2 nl0 t0 zs)), (1, V.c (C.sl 2 nl1 t1 ws)), (5, V.ptr 0 0 0 0), (9, V.ptr 1 0 0 0), (10, V.ptr 2 0 0 0), (11, V.c (C.int IntKind.i64 i11))], [O.box [V.c (C.str sh0), V.c (C.sl 5 nlh0 th0 xsh0), V.c (C.sl 3 nlh0_1 th0_1 xsh0_1)], O.box [V.c (C.str sh1), V.c (C.sl 5 nlh1 th1 xsh1), V.c (C.sl 3 nlh1_1 th1_1 xsh1_1)], O.box [V.c (C.str sh2), V.c (C.sl 5 nlh2 th2 xsh2), V.c (C.sl 3 nlh2_1 th2_1 xsh2_1)]])
noncomputable abbrev b8_1 : Code := loopAt (codeOf E (8)) 1
abbrev x8_1x0 (sh0 : Bys) (nlh0 : OBo) (th0 : Bool) (xsh0 : LLC) (nlh0_1 : OBo) (th0_1 : Bool) (xsh0_1 : LLC) (sh1 : Bys) (nlh1 : OBo) (th1 : Bool) (xsh1 : LLC) (nlh1_1 : OBo) (th1_1 : Bool) (xsh1_1 : LLC) (sh2 : Bys) (nlh2 : OBo) (th2 : Bool) (xsh2 : LLC) (nlh2_1 : OBo) (th2_1 : Bool) (xsh2_1 : LLC) (sh3 : Bys) (nlh3 : OBo) (xsh3 : LLC) (xsh3_1 : LLC) (sh4 : Bys) (xsh4 : LLC) (xsh4_1 : LLC) : Ex × Fr × Hp := (Ex.ret, [(4, V.c (C.bool false))], [O.box [V.c (C.str sh0), V.c (C.sl 5 nlh0 th0 xsh0), V.c (C.sl 3 nlh0_1 th0_1 xsh0_1)], O.box [V.c (C.str sh1), V.c (C.sl 5 nlh1 th1 xsh1), V.c (C.sl 3 nlh1_1 th1_1 xsh1_1)], O.box [V.c (C.str sh2), V.c (C.sl 5 nlh2 th2 xsh2), V.c (C.sl 3 nlh2_1 th2_1 xsh2_1)], O.box [V.c (C.str sh3), V.c (C.sl 5 nlh3 false xsh3), V.c (C.sl 3 nlh3 false xsh3_1)], O.box [V.c (C.str sh4), V.c (C.sl 5 nlh3 false xsh4), V.c (C.sl 3 nlh3 false xsh4_1)]])
abbrev x8_1x1 (zs : LLC) (ws : LLC) (nl0 : OBo) (t0 : Bool) (nl1 : OBo) (t1 : Bool) (sh0 : Bys) (nlh0 : OBo) (th0 : Bool) (xsh0 : LLC) (nlh0_1 : OBo) (th0_1 : Bool) (xsh0_1 : LLC) (i11 : Int) (sh1 : Bys) (nlh1 : OBo) (th1 : Bool) (xsh1 : LLC) (nlh1_1 : OBo) (th1_1 : Bool) (xsh1_1 : LLC) (sh2 : Bys) (nlh2 : OBo) (th2 : Bool) (xsh2 : LLC) (nlh2_1 : OBo) (th2_1 : Bool) (xsh2_1 : LLC) : Ex × Fr × Hp := (Ex.exit 4, [(0, V.c (C.sl 2 nl0 t0 zs)), (1, V.c (C.sl 2 nl1 t1 ws)), (5, V.ptr 0 0 0 0), (9, V.ptr 1 0 0 0), (10, V.ptr 2 0 0 0), (11, V.c (C.int IntKind.i64 i11)), (68, V.c (C.bool false))], [O.box [V.c (C.str sh0), V.c (C.sl 5 nlh0 th0 xsh0), V.c (C.sl 3 nlh0_1 th0_1 xsh0_1)], O.box [V.c (C.str sh1), V.c (C.sl 5 nlh1 th1 xsh1), V.c (C.sl 3 nlh1_1 th1_1 xsh1_1)], O.box [V.c (C.str sh2), V.c (C.sl 5 nlh2 th2 xsh2), V.c (C.sl 3 nlh2_1 th2_1 xsh2_1)]])
abbrev s8_2 (zs : LLC) (ws : LLC) (nl0 : OBo) (t0 : Bool) (nl1 : OBo) (t1 : Bool) (sh0 : Bys) (nlh0 : OBo) (th0 : Bool) (xsh0 : LLC) (nlh0_1 : OBo) (th0_1 : Bool) (xsh0_1 : LLC) (sh1 : Bys) (nlh1 : OBo) (th1 : Bool) (xsh1 : LLC) (nlh1_1 : OBo) (th1_1 : Bool) (xsh1_1 : LLC) (sh2 : Bys) (nlh2 : OBo) (th2 : Bool) (xsh2 : LLC) (nlh2_1 : OBo) (th2_1 : Bool) (xsh2_1 : LLC) (i16 : Int) : Fr × Hp := ([(0, V.c (C.sl 2 nl0 t0 zs)), (1, V.c (C.sl 2 nl1 t1 ws)), (5, V.ptr 0 0 0 0), (9, V.ptr 1 0 0 0), (10, V.ptr 2 0 0 0), (16, V.c (C.int IntKind.i64 i16))], [O.box [V.c (C.str sh0), V.c (C.sl 5 nlh0 th0 xsh0), V.c (C.sl 3 nlh0_1 th0_1 xsh0_1)], O.box [V.c (C.str sh1), V.c (C.sl 5 nlh1 th1 xsh1), V.c (C.sl 3 nlh1_1 th1_1 xsh1_1)], O.box [V.c (C.str sh2), V.c (C.sl 5 nlh2 th2 xsh2), V.c (C.sl 3 nlh2_1 th2_1 xsh2_1)]])
noncomputable abbrev b8_2 : Code := loopAt (codeOf E (8)) 2
abbrev x8_2x0 (zs : LLC) (ws : LLC) (nl0 : OBo) (t0 : Bool) (nl1 : OBo) (t1 : Bool) (sh0 : Bys) (nlh0 : OBo) (th0 : Bool) (xsh0 : LLC) (nlh0_1 : OBo) (th0_1 : Bool) (xsh0_1 : LLC) (sh1 : Bys) (nlh1 : OBo) (th1 : Bool) (xsh1 : LLC) (nlh1_1 : OBo) (th1_1 : Bool) (xsh1_1 : LLC) (sh2 : Bys) (nlh2 : OBo) (th2 : Bool) (xsh2 : LLC) (nlh2_1 : OBo) (th2_1 : Bool) (xsh2_1 : LLC) (i16 : Int) : Ex × Fr × Hp := (Ex.exit 6, [(0, V.c (C.sl 2 nl0 t0 zs)), (1, V.c (C.sl 2 nl1 t1 ws)), (5, V.ptr 0 0 0 0), (9, V.ptr 1 0 0 0), (10, V.ptr 2 0 0 0), (16, V.c (C.int IntKind.i64 i16)), (120, V.c (C.bool false))], [O.box [V.c (C.str sh0), V.c (C.sl 5 nlh0 th0 xsh0), V.c (C.sl 3 nlh0_1 th0_1 xsh0_1)], O.box [V.c (C.str sh1), V.c (C.sl 5 nlh1 th1 xsh1), V.c (C.sl 3 nlh1_1 th1_1 xsh1_1)], O.box [V.c (C.str sh2), V.c (C.sl 5 nlh2 th2 xsh2), V.c (C.sl 3 nlh2_1 th2_1 xsh2_1)]])
abbrev s8_3 (zs : LLC) (ws : LLC) (nl0 : OBo) (t0 : Bool) (nl1 : OBo) (t1 : Bool) (sh0 : Bys) (nlh0 : OBo) (th0 : Bool) (xsh0 : LLC) (nlh0_1 : OBo) (th0_1 : Bool) (xsh0_1 : LLC) (sh1 : Bys) (nlh1 : OBo) (th1 : Bool) (xsh1 : LLC) (nlh1_1 : OBo) (th1_1 : Bool) (xsh1_1 : LLC) (sh2 : Bys) (nlh2 : OBo) (th2 : Bool) (xsh2 : LLC) (nlh2_1 : OBo) (th2_1 : Bool) (xsh2_1 : LLC) (i19 : Int) : Fr × Hp := ([(0, V.c (C.sl 2 nl0 t0 zs)), (1, V.c (C.sl 2 nl1 t1 ws)), (5, V.ptr 0 0 0 0), (9, V.ptr 1 0 0 0), (10, V.ptr 2 0 0 0), (19, V.c (C.int IntKind.i64 i19))], [O.box [V.c (C.str sh0), V.c (C.sl 5 nlh0 th0 xsh0), V.c (C.sl 3 nlh0_1 th0_1 xsh0_1)], O.box [V.c (C.str sh1), V.c (C.sl 5 nlh1 th1 xsh1), V.c (C.sl 3 nlh1_1 th1_1 xsh1_1)], O.box [V.c (C.str sh2), V.c (C.sl 5 nlh2 th2 xsh2), V.c (C.sl 3 nlh2_1 th2_1 xsh2_1)]])
noncomputable abbrev b8_3 : Code := loopAt (codeOf E (8)) 3
abbrev x8_3x0 (zs : LLC) (ws : LLC) (nl0 : OBo) (t0 : Bool) (nl1 : OBo) (t1 : Bool) (sh0 : Bys) (nlh0 : OBo) (th0 : Bool) (xsh0 : LLC) (nlh0_1 : OBo) (th0_1 : Bool) (xsh0_1 : LLC) (sh1 : Bys) (nlh1 : OBo) (th1 : Bool) (xsh1 : LLC) (nlh1_1 : OBo) (th1_1 : Bool) (xsh1_1 : LLC) (sh2 : Bys) (nlh2 : OBo) (th2 : Bool) (xsh2 : LLC) (nlh2_1 : OBo) (th2_1 : Bool) (xsh2_1 : LLC) (i19 : Int) : Ex × Fr × Hp := (Ex.exit 8, [(0, V.c (C.sl 2 nl0 t0 zs)), (1, V.c (C.sl 2 nl1 t1 ws)), (5, V.ptr 0 0 0 0), (9, V.ptr 1 0 0 0), (10, V.ptr 2 0 0 0), (19, V.c (C.int IntKind.i64 i19)), (144, V.c (C.bool false))], [O.box [V.c (C.str sh0), V.c (C.sl 5 nlh0 th0 xsh0), V.c (C.sl 3 nlh0_1 th0_1 xsh0_1)], O.box [V.c (C.str sh1), V.c (C.sl 5 nlh1 th1 xsh1), V.c (C.sl 3 nlh1_1 th1_1 xsh1_1)], O.box [V.c (C.str sh2), V.c (C.sl 5 nlh2 th2 xsh2), V.c (C.sl 3 nlh2_1 th2_1 xsh2_1)]])
theorem t8_0_0 (zs : LLC) (ws : LLC) (nl0 : OBo) (t0 : Bool) (nl1 : OBo) (t1 : Bool) (i7 : Int) (sh0 : Bys) (nlh0 : OBo) (th0 : Bool) (xsh0 : LLC) (nlh0_1 : OBo) (th0_1 : Bool) (xsh0_1 : LLC) (i8 : Int) : p8.lts b8_0_0 (s8_0_0 zs ws nl0 t0 nl1 t1 i7 sh0 nlh0 th0 xsh0 nlh0_1 th0_1 xsh0_1 i8) = (Tr.br (decide (i8 < (↑zs.length : Int))) (Tr.chk (decide (0 ≤ i7)) (Tr.chk true (Tr.chk (decide (i7.toNat < ws.length)) (Tr.chk (shOk [Sk.str, Sk.sl 5] (ws.getD i7.toNat [])) (Tr.chk (decide (0 ≤ i8)) (Tr.chk true (Tr.chk (decide (i8.toNat < zs.length)) (Tr.chk (shOk [Sk.str, Sk.sl 5] (zs.getD i8.toNat [])) (Tr.br (((ws.getD i7.toNat []).headD C.pnil).st == ((zs.getD i8.toNat []).headD C.pnil).st) (Tr.leaf (R.x (x8_0_0x0 sh0 nlh0 th0 xsh0 nlh0_1 th0_1 xsh0_1))) (Tr.leaf (R.s (s8_0_0 zs ws nl0 t0 nl1 t1 i7 sh0 nlh0 th0 xsh0 nlh0_1 th0_1 xsh0_1 (IntKind.i64.wrap (i8 + 1)))))))))))))) (Tr.leaf (R.x (x8_0_0x1 zs ws nl0 t0 nl1 t1 i7 sh0 nlh0 th0 xsh0 nlh0_1 th0_1 xsh0_1 i8)))) := by kernel_rfl
theorem k8_0_0x0 (sh0 : Bys) (nlh0 : OBo) (th0 : Bool) (xsh0 : LLC) (nlh0_1 : OBo) (th0_1 : Bool) (xsh0_1 : LLC) : p8.lkx b8_0 0 (x8_0_0x0 sh0 nlh0 th0 xsh0 nlh0_1 th0_1 xsh0_1) = (Tr.leaf (R.x (x8_0x0 sh0 nlh0 th0 xsh0 nlh0_1 th0_1 xsh0_1))) := by kernel_rfl
theorem k8_0_0x1 (zs : LLC) (ws : LLC) (nl0 : OBo) (t0 : Bool) (nl1 : OBo) (t1 : Bool) (i7 : Int) (sh0 : Bys) (nlh0 : OBo) (th0 : Bool) (xsh0 : LLC) (nlh0_1 : OBo) (th0_1 : Bool) (xsh0_1 : LLC) (i8 : Int) : p8.lkx b8_0 0 (x8_0_0x1 zs ws nl0 t0 nl1 t1 i7 sh0 nlh0 th0 xsh0 nlh0_1 th0_1 xsh0_1 i8) = (Tr.leaf (R.s (s8_0 zs ws nl0 t0 nl1 t1 (IntKind.i64.wrap (i7 + 1)) sh0 nlh0 th0 xsh0 nlh0_1 th0_1 xsh0_1))) := by kernel_rfl
theorem t8_0 (zs : LLC) (ws : LLC) (nl0 : OBo) (t0 : Bool) (nl1 : OBo) (t1 : Bool) (i7 : Int) (sh0 : Bys) (nlh0 : OBo) (th0 : Bool) (xsh0 : LLC) (nlh0_1 : OBo) (th0_1 : Bool) (xsh0_1 : LLC) : p8.lts b8_0 (s8_0 zs ws nl0 t0 nl1 t1 i7 sh0 nlh0 th0 xsh0 nlh0_1 th0_1 xsh0_1) = (Tr.br (decide (i7 < (↑ws.length : Int))) (Tr.ls 0 (s8_0_0 zs ws nl0 t0 nl1 t1 i7 sh0 nlh0 th0 xsh0 nlh0_1 th0_1 xsh0_1 (0))) (Tr.leaf (R.x (x8_0x1 zs ws nl0 t0 nl1 t1 i7 sh0 nlh0 th0 xsh0 nlh0_1 th0_1 xsh0_1)))) := by kernel_rfl
theorem k8_0x0 (sh0 : Bys) (nlh0 : OBo) (th0 : Bool) (xsh0 : LLC) (nlh0_1 : OBo) (th0_1 : Bool) (xsh0_1 : LLC) : p8.fkx 0 (x8_0x0 sh0 nlh0 th0 xsh0 nlh0_1 th0_1 xsh0_1) = (Tr.leaf (R.out [V.c (C.bool true)] [])) := by kernel_rfl
abbrev c8_1_1 (zs : LLC) (i11 : Int) := (IntKind.i64.wrap (IntKind.i64.wrap ((↑zs.length : Int) - 1) - i11))
abbrev c8_1_2 (zs : LLC) (i11 : Int) (sh2 : Bys) (xsh2 : LLC) (xsh2_1 : LLC) := (putP (Nd.node sh2 (toRows xsh2) (decL xsh2_1)) ((zs.getD (c8_1_1 zs i11).toNat []).headD C.pnil).st (toRows ((zs.getD (c8_1_1 zs i11).toNat []).tail.headD C.pnil).xs))
abbrev c8_1_3 (zs : LLC) (i11 : Int) (sh1 : Bys) (xsh1 : LLC) (xsh1_1 : LLC) := (putP (Nd.node sh1 (toRows xsh1) (decL xsh1_1)) ((zs.getD i11.toNat []).headD C.pnil).st (toRows ((zs.getD i11.toNat []).tail.headD C.pnil).xs))
theorem t8_1 (zs : LLC) (ws : LLC) (nl0 : OBo) (t0 : Bool) (nl1 : OBo) (t1 : Bool) (sh0 : Bys) (nlh0 : OBo) (th0 : Bool) (xsh0 : LLC) (nlh0_1 : OBo) (th0_1 : Bool) (xsh0_1 : LLC) (i11 : Int) (sh1 : Bys) (nlh1 : OBo) (th1 : Bool) (xsh1 : LLC) (nlh1_1 : OBo) (th1_1 : Bool) (xsh1_1 : LLC) (sh2 : Bys) (nlh2 : OBo) (th2 : Bool) (xsh2 : LLC) (nlh2_1 : OBo) (th2_1 : Bool) (xsh2_1 : LLC) : p8.lts b8_1 (s8_1 zs ws nl0 t0 nl1 t1 sh0 nlh0 th0 xsh0 nlh0_1 th0_1 xsh0_1 i11 sh1 nlh1 th1 xsh1 nlh1_1 th1_1 xsh1_1 sh2 nlh2 th2 xsh2 nlh2_1 th2_1 xsh2_1) = (Tr.br (decide (i11 < (↑zs.length : Int))) (Tr.chk (decide (0 ≤ i11)) (Tr.chk true (Tr.chk (decide (i11.toNat < zs.length)) (Tr.chk (shOk [Sk.str, Sk.sl 5] (zs.getD i11.toNat [])) (Tr.chk (decide (0 ≤ i11)) (Tr.chk true (Tr.chk (decide (i11.toNat < zs.length)) (Tr.chk (shOk [Sk.str, Sk.sl 5] (zs.getD i11.toNat [])) (Tr.chk (isRows xsh1) (Tr.chk (isL xsh1_1) (Tr.chk (isRows ((zs.getD i11.toNat []).tail.headD C.pnil).xs) (Tr.chk true (Tr.chk (decide (0 ≤ IntKind.i64.wrap (IntKind.i64.wrap ((↑zs.length : Int) - 1) - i11))) (Tr.chk true (Tr.chk (decide ((c8_1_1 zs i11).toNat < zs.length)) (Tr.chk (shOk [Sk.str, Sk.sl 5] (zs.getD (c8_1_1 zs i11).toNat [])) (Tr.chk (decide (0 ≤ IntKind.i64.wrap (IntKind.i64.wrap ((↑zs.length : Int) - 1) - i11))) (Tr.chk true (Tr.chk (decide ((c8_1_1 zs i11).toNat < zs.length)) (Tr.chk (shOk [Sk.str, Sk.sl 5] (zs.getD (c8_1_1 zs i11).toNat [])) (Tr.chk (isRows xsh2) (Tr.chk (isL xsh2_1) (Tr.chk (isRows ((zs.getD (c8_1_1 zs i11).toNat []).tail.headD C.pnil).xs) (Tr.chk true (Tr.br ((c8_1_3 zs i11 sh1 xsh1 xsh1_1).snd != 0) (Tr.leaf (R.x (x8_1x0 sh0 nlh0 th0 xsh0 nlh0_1 th0_1 xsh0_1 sh1 nlh1 th1 xsh1 nlh1_1 th1_1 xsh1_1 sh2 nlh2 th2 xsh2 nlh2_1 th2_1 xsh2_1 ((c8_1_3 zs i11 sh1 xsh1 xsh1_1).fst.lab) (none) (rows (c8_1_3 zs i11 sh1 xsh1 xsh1_1).fst.rows) (encL (c8_1_3 zs i11 sh1 xsh1 xsh1_1).fst.kids) ((c8_1_2 zs i11 sh2 xsh2 xsh2_1).fst.lab) (rows (c8_1_2 zs i11 sh2 xsh2 xsh2_1).fst.rows) (encL (c8_1_2 zs i11 sh2 xsh2 xsh2_1).fst.kids)))) (Tr.br ((c8_1_2 zs i11 sh2 xsh2 xsh2_1).snd != 0) (Tr.leaf (R.x (x8_1x0 sh0 nlh0 th0 xsh0 nlh0_1 th0_1 xsh0_1 sh1 nlh1 th1 xsh1 nlh1_1 th1_1 xsh1_1 sh2 nlh2 th2 xsh2 nlh2_1 th2_1 xsh2_1 ((c8_1_3 zs i11 sh1 xsh1 xsh1_1).fst.lab) (none) (rows (c8_1_3 zs i11 sh1 xsh1 xsh1_1).fst.rows) (encL (c8_1_3 zs i11 sh1 xsh1 xsh1_1).fst.kids) ((c8_1_2 zs i11 sh2 xsh2 xsh2_1).fst.lab) (rows (c8_1_2 zs i11 sh2 xsh2 xsh2_1).fst.rows) (encL (c8_1_2 zs i11 sh2 xsh2 xsh2_1).fst.kids)))) (Tr.leaf (R.s (s8_1 zs ws nl0 t0 nl1 t1 sh0 nlh0 th0 xsh0 nlh0_1 th0_1 xsh0_1 (IntKind.i64.wrap (i11 + 1)) ((c8_1_3 zs i11 sh1 xsh1 xsh1_1).fst.lab) (none) false (rows (c8_1_3 zs i11 sh1 xsh1 xsh1_1).fst.rows) (none) false (encL (c8_1_3 zs i11 sh1 xsh1 xsh1_1).fst.kids) ((c8_1_2 zs i11 sh2 xsh2 xsh2_1).fst.lab) (none) false (rows (c8_1_2 zs i11 sh2 xsh2 xsh2_1).fst.rows) (none) false (encL (c8_1_2 zs i11 sh2 xsh2 xsh2_1).fst.kids)))))))))))))))))))))))))))))) (Tr.leaf (R.x (x8_1x1 zs ws nl0 t0 nl1 t1 sh0 nlh0 th0 xsh0 nlh0_1 th0_1 xsh0_1 i11 sh1 nlh1 th1 xsh1 nlh1_1 th1_1 xsh1_1 sh2 nlh2 th2 xsh2 nlh2_1 th2_1 xsh2_1)))) := by kernel_rfl
theorem t8_2 (zs : LLC) (ws : LLC) (nl0 : OBo) (t0 : Bool) (nl1 : OBo) (t1 : Bool) (sh0 : Bys) (nlh0 : OBo) (th0 : Bool) (xsh0 : LLC) (nlh0_1 : OBo) (th0_1 : Bool) (xsh0_1 : LLC) (sh1 : Bys) (nlh1 : OBo) (th1 : Bool) (xsh1 : LLC) (nlh1_1 : OBo) (th1_1 : Bool) (xsh1_1 : LLC) (sh2 : Bys) (nlh2 : OBo) (th2 : Bool) (xsh2 : LLC) (nlh2_1 : OBo) (th2_1 : Bool) (xsh2_1 : LLC) (i16 : Int) : p8.lts b8_2 (s8_2 zs ws nl0 t0 nl1 t1 sh0 nlh0 th0 xsh0 nlh0_1 th0_1 xsh0_1 sh1 nlh1 th1 xsh1 nlh1_1 th1_1 xsh1_1 sh2 nlh2 th2 xsh2 nlh2_1 th2_1 xsh2_1 i16) = (Tr.br (decide (i16 < (↑ws.length : Int))) (Tr.chk (decide (0 ≤ i16)) (Tr.chk true (Tr.chk (decide (i16.toNat < ws.length)) (Tr.chk (shOk [Sk.str, Sk.sl 5] (ws.getD i16.toNat [])) (Tr.chk (decide (0 ≤ i16)) (Tr.chk true (Tr.chk (decide (i16.toNat < ws.length)) (Tr.chk (shOk [Sk.str, Sk.sl 5] (ws.getD i16.toNat [])) (Tr.chk (isRows xsh1) (Tr.chk (isL xsh1_1) (Tr.chk (isRows ((ws.getD i16.toNat []).tail.headD C.pnil).xs) (Tr.chk true (Tr.br ((putP (Nd.node sh1 (toRows xsh1) (decL xsh1_1)) ((ws.getD i16.toNat []).headD C.pnil).st (toRows ((ws.getD i16.toNat []).tail.headD C.pnil).xs)).snd == 0) (Tr.leaf (R.s (s8_2 zs ws nl0 t0 nl1 t1 sh0 nlh0 th0 xsh0 nlh0_1 th0_1 xsh0_1 ((putP (Nd.node sh1 (toRows xsh1) (decL xsh1_1)) ((ws.getD i16.toNat []).headD C.pnil).st (toRows ((ws.getD i16.toNat []).tail.headD C.pnil).xs)).fst.lab) (none) false (rows (putP (Nd.node sh1 (toRows xsh1) (decL xsh1_1)) ((ws.getD i16.toNat []).headD C.pnil).st (toRows ((ws.getD i16.toNat []).tail.headD C.pnil).xs)).fst.rows) (none) false (encL (putP (Nd.node sh1 (toRows xsh1) (decL xsh1_1)) ((ws.getD i16.toNat []).headD C.pnil).st (toRows ((ws.getD i16.toNat []).tail.headD C.pnil).xs)).fst.kids) sh2 nlh2 th2 xsh2 nlh2_1 th2_1 xsh2_1 (IntKind.i64.wrap (i16 + 1))))) (Tr.leaf (R.s (s8_2 zs ws nl0 t0 nl1 t1 sh0 nlh0 th0 xsh0 nlh0_1 th0_1 xsh0_1 sh1 nlh1 th1 xsh1 nlh1_1 th1_1 xsh1_1 sh2 nlh2 th2 xsh2 nlh2_1 th2_1 xsh2_1 (IntKind.i64.wrap (i16 + 1)))))))))))))))))) (Tr.leaf (R.x (x8_2x0 zs ws nl0 t0 nl1 t1 sh0 nlh0 th0 xsh0 nlh0_1 th0_1 xsh0_1 sh1 nlh1 th1 xsh1 nlh1_1 th1_1 xsh1_1 sh2 nlh2 th2 xsh2 nlh2_1 th2_1 xsh2_1 i16)))) := by kernel_rfl
theorem t8_3 (zs : LLC) (ws : LLC) (nl0 : OBo) (t0 : Bool) (nl1 : OBo) (t1 : Bool) (sh0 : Bys) (nlh0 : OBo) (th0 : Bool) (xsh0 : LLC) (nlh0_1 : OBo) (th0_1 : Bool) (xsh0_1 : LLC) (sh1 : Bys) (nlh1 : OBo) (th1 : Bool) (xsh1 : LLC) (nlh1_1 : OBo) (th1_1 : Bool) (xsh1_1 : LLC) (sh2 : Bys) (nlh2 : OBo) (th2 : Bool) (xsh2 : LLC) (nlh2_1 : OBo) (th2_1 : Bool) (xsh2_1 : LLC) (i19 : Int) : p8.lts b8_3 (s8_3 zs ws nl0 t0 nl1 t1 sh0 nlh0 th0 xsh0 nlh0_1 th0_1 xsh0_1 sh1 nlh1 th1 xsh1 nlh1_1 th1_1 xsh1_1 sh2 nlh2 th2 xsh2 nlh2_1 th2_1 xsh2_1 i19) = (Tr.br (decide (i19 < (↑ws.length : Int))) (Tr.chk (decide (0 ≤ i19)) (Tr.chk true (Tr.chk (decide (i19.toNat < ws.length)) (Tr.chk (shOk [Sk.str, Sk.sl 5] (ws.getD i19.toNat [])) (Tr.chk (isRows xsh1) (Tr.chk (isL xsh1_1) (Tr.chk true (Tr.chk true (Tr.br ((putP (Nd.node sh1 (toRows xsh1) (decL xsh1_1)) ((ws.getD i19.toNat []).headD C.pnil).st (toRows [])).snd == 0) (Tr.leaf (R.s (s8_3 zs ws nl0 t0 nl1 t1 sh0 nlh0 th0 xsh0 nlh0_1 th0_1 xsh0_1 ((putP (Nd.node sh1 (toRows xsh1) (decL xsh1_1)) ((ws.getD i19.toNat []).headD C.pnil).st (toRows [])).fst.lab) (none) false (rows (putP (Nd.node sh1 (toRows xsh1) (decL xsh1_1)) ((ws.getD i19.toNat []).headD C.pnil).st (toRows [])).fst.rows) (none) false (encL (putP (Nd.node sh1 (toRows xsh1) (decL xsh1_1)) ((ws.getD i19.toNat []).headD C.pnil).st (toRows [])).fst.kids) sh2 nlh2 th2 xsh2 nlh2_1 th2_1 xsh2_1 (IntKind.i64.wrap (i19 + 1))))) (Tr.leaf (R.s (s8_3 zs ws nl0 t0 nl1 t1 sh0 nlh0 th0 xsh0 nlh0_1 th0_1 xsh0_1 sh1 nlh1 th1 xsh1 nlh1_1 th1_1 xsh1_1 sh2 nlh2 th2 xsh2 nlh2_1 th2_1 xsh2_1 (IntKind.i64.wrap (i19 + 1)))))))))))))) (Tr.leaf (R.x (x8_3x0 zs ws nl0 t0 nl1 t1 sh0 nlh0 th0 xsh0 nlh0_1 th0_1 xsh0_1 sh1 nlh1 th1 xsh1 nlh1_1 th1_1 xsh1_1 sh2 nlh2 th2 xsh2 nlh2_1 th2_1 xsh2_1 i19)))) := by kernel_rfl
theorem k8_3x0 (zs : LLC) (ws : LLC) (nl0 : OBo) (t0 : Bool) (nl1 : OBo) (t1 : Bool) (sh0 : Bys) (nlh0 : OBo) (th0 : Bool) (xsh0 : LLC) (nlh0_1 : OBo) (th0_1 : Bool) (xsh0_1 : LLC) (sh1 : Bys) (nlh1 : OBo) (th1 : Bool) (xsh1 : LLC) (nlh1_1 : OBo) (th1_1 : Bool) (xsh1_1 : LLC) (sh2 : Bys) (nlh2 : OBo) (th2 : Bool) (xsh2 : LLC) (nlh2_1 : OBo) (th2_1 : Bool) (xsh2_1 : LLC) (i19 : Int) : p8.fkx 3 (x8_3x0 zs ws nl0 t0 nl1 t1 sh0 nlh0 th0 xsh0 nlh0_1 th0_1 xsh0_1 sh1 nlh1 th1 xsh1 nlh1_1 th1_1 xsh1_1 sh2 nlh2 th2 xsh2 nlh2_1 th2_1 xsh2_1 i19) = (Tr.chk (isRows xsh1) (Tr.chk (isL xsh1_1) (Tr.chk (decide ((entL (decL xsh1_1)).length < 1000000000)) (Tr.chk (isEs (ents (entP (Nd.node sh1 (toRows xsh1) (decL xsh1_1))))) (Tr.chk (decide ((ents (entP (Nd.node sh1 (toRows xsh1) (decL xsh1_1)))).length < 4294967290)) (Tr.chk (isRows xsh1) (Tr.chk (isL xsh1_1) (Tr.chk (isRows xsh0) (Tr.chk (isL xsh0_1) (Tr.chk (lensT (Nd.node sh1 (toRows xsh1) (decL xsh1_1))) (Tr.br (sameT (Nd.node sh1 (toRows xsh1) (decL xsh1_1)) (Nd.node sh0 (toRows xsh0) (decL xsh0_1))) (Tr.chk (isRows xsh2) (Tr.chk (isL xsh2_1) (Tr.chk (isRows xsh0) (Tr.chk (isL xsh0_1) (Tr.chk (lensT (Nd.node sh2 (toRows xsh2) (decL xsh2_1))) (Tr.br (sameT (Nd.node sh2 (toRows xsh2) (decL xsh2_1)) (Nd.node sh0 (toRows xsh0) (decL xsh0_1))) (Tr.chk (isRows (rows (bldP (toEs (ents (entP (Nd.node sh1 (toRows xsh1) (decL xsh1_1)))))).fst.rows)) (Tr.chk (isL (encL (bldP (toEs (ents (entP (Nd.node sh1 (toRows xsh1) (decL xsh1_1)))))).fst.kids)) (Tr.chk (isRows xsh0) (Tr.chk (isL xsh0_1) (Tr.chk (lensT (Nd.node (bldP (toEs (ents (entP (Nd.node sh1 (toRows xsh1) (decL xsh1_1)))))).fst.lab (toRows (rows (bldP (toEs (ents (entP (Nd.node sh1 (toRows xsh1) (decL xsh1_1)))))).fst.rows)) (decL (encL (bldP (toEs (ents (entP (Nd.node sh1 (toRows xsh1) (decL xsh1_1)))))).fst.kids)))) (Tr.br (sameT (Nd.node (bldP (toEs (ents (entP (Nd.node sh1 (toRows xsh1) (decL xsh1_1)))))).fst.lab (toRows (rows (bldP (toEs (ents (entP (Nd.node sh1 (toRows xsh1) (decL xsh1_1)))))).fst.rows)) (decL (encL (bldP (toEs (ents (entP (Nd.node sh1 (toRows xsh1) (decL xsh1_1)))))).fst.kids))) (Nd.node sh0 (toRows xsh0) (decL xsh0_1))) (Tr.br ((bldP (toEs (ents (entP (Nd.node sh1 (toRows xsh1) (decL xsh1_1)))))).snd == 0) (Tr.chk (isRows xsh0) (Tr.chk (isL xsh0_1) (Tr.chk (decide ((entL (decL xsh0_1)).length < 1000000000)) (Tr.br ((↑(ents (entP (Nd.node sh0 (toRows xsh0) (decL xsh0_1)))).length : Int) == (↑zs.length : Int)) (Tr.leaf (R.out [V.c (C.bool true)] [])) (Tr.leaf (R.out [V.c (C.bool false)] [])))))) (Tr.leaf (R.out [V.c (C.bool false)] []))) (Tr.leaf (R.out [V.c (C.bool false)] [])))))))) (Tr.leaf (R.out [V.c (C.bool false)] [])))))))) (Tr.leaf (R.out [V.c (C.bool false)] []))))))))))))) := by kernel_rfl
theorem k8_2x0 (zs : LLC) (ws : LLC) (nl0 : OBo) (t0 : Bool) (nl1 : OBo) (t1 : Bool) (sh0 : Bys) (nlh0 : OBo) (th0 : Bool) (xsh0 : LLC) (nlh0_1 : OBo) (th0_1 : Bool) (xsh0_1 : LLC) (sh1 : Bys) (nlh1 : OBo) (th1 : Bool) (xsh1 : LLC) (nlh1_1 : OBo) (th1_1 : Bool) (xsh1_1 : LLC) (sh2 : Bys) (nlh2 : OBo) (th2 : Bool) (xsh2 : LLC) (nlh2_1 : OBo) (th2_1 : Bool) (xsh2_1 : LLC) (i16 : Int) : p8.fkx 2 (x8_2x0 zs ws nl0 t0 nl1 t1 sh0 nlh0 th0 xsh0 nlh0_1 th0_1 xsh0_1 sh1 nlh1 th1 xsh1 nlh1_1 th1_1 xsh1_1 sh2 nlh2 th2 xsh2 nlh2_1 th2_1 xsh2_1 i16) = (Tr.ls 3 (s8_3 zs ws nl0 t0 nl1 t1 sh0 nlh0 th0 xsh0 nlh0_1 th0_1 xsh0_1 sh1 nlh1 th1 xsh1 nlh1_1 th1_1 xsh1_1 sh2 nlh2 th2 xsh2 nlh2_1 th2_1 xsh2_1 (0))) := by kernel_rfl
theorem k8_1x1 (zs : LLC) (ws : LLC) (nl0 : OBo) (t0 : Bool) (nl1 : OBo) (t1 : Bool) (sh0 : Bys) (nlh0 : OBo) (th0 : Bool) (xsh0 : LLC) (nlh0_1 : OBo) (th0_1 : Bool) (xsh0_1 : LLC) (i11 : Int) (sh1 : Bys) (nlh1 : OBo) (th1 : Bool) (xsh1 : LLC) (nlh1_1 : OBo) (th1_1 : Bool) (xsh1_1 : LLC) (sh2 : Bys) (nlh2 : OBo) (th2 : Bool) (xsh2 : LLC) (nlh2_1 : OBo) (th2_1 : Bool) (xsh2_1 : LLC) : p8.fkx 1 (x8_1x1 zs ws nl0 t0 nl1 t1 sh0 nlh0 th0 xsh0 nlh0_1 th0_1 xsh0_1 i11 sh1 nlh1 th1 xsh1 nlh1_1 th1_1 xsh1_1 sh2 nlh2 th2 xsh2 nlh2_1 th2_1 xsh2_1) = (Tr.ls 2 (s8_2 zs ws nl0 t0 nl1 t1 sh0 nlh0 th0 xsh0 nlh0_1 th0_1 xsh0_1 sh1 nlh1 th1 xsh1 nlh1_1 th1_1 xsh1_1 sh2 nlh2 th2 xsh2 nlh2_1 th2_1 xsh2_1 (0))) := by kernel_rfl
theorem k8_0x1 (zs : LLC) (ws : LLC) (nl0 : OBo) (t0 : Bool) (nl1 : OBo) (t1 : Bool) (i7 : Int) (sh0 : Bys) (nlh0 : OBo) (th0 : Bool) (xsh0 : LLC) (nlh0_1 : OBo) (th0_1 : Bool) (xsh0_1 : LLC) : p8.fkx 0 (x8_0x1 zs ws nl0 t0 nl1 t1 i7 sh0 nlh0 th0 xsh0 nlh0_1 th0_1 xsh0_1) = (Tr.ls 1 (s8_1 zs ws nl0 t0 nl1 t1 sh0 nlh0 th0 xsh0 nlh0_1 th0_1 xsh0_1 (0) ([]) (some true) true ([]) (some true) true ([]) ([]) (some true) true ([]) (some true) true ([]))) := by kernel_rfl
theorem t8 (zs : LLC) (ws : LLC) : p8.ft ([V.c (C.sl 2 none false zs), V.c (C.sl 2 none false ws)]) ([]) = (Tr.chk (isEs zs) (Tr.br (!fewE' (toEs zs)) (Tr.leaf (R.out [V.c (C.bool true)] [])) (Tr.chk (isEs ws) (Tr.br (!fewE' (toEs ws)) (Tr.leaf (R.out [V.c (C.bool true)] [])) (Tr.chk (isEs zs) (Tr.chk (decide (zs.length < 4294967290)) (Tr.br ((bldP (toEs zs)).snd != 0) (Tr.leaf (R.out [V.c (C.bool true)] [])) (Tr.ls 0 (s8_0 zs ws (none) false (none) false (0) ((bldP (toEs zs)).fst.lab) (none) false (rows (bldP (toEs zs)).fst.rows) (none) false (encL (bldP (toEs zs)).fst.kids)))))))))) := by kernel_rfl
end Go.Proofs.YtgaabjmbnomimaaDoor
namespace Go.Proofs.YtgaabjmbnomimaaDoor
open Go Go.Ev
theorem insA_self {M : List Ent} (h : Rise M) (hn : Rne M) : insA [] M = M := by
  have a := insA_acc Acc.nil hn
  refine rise_ext a.rise h a.rne hn fun q => ?_
  rw [insA_look Acc.nil hn (rise_nodup h)]
  split
  · rename_i k; rw [k]; rfl
  · rfl
section
variable {l : List Ent} (hg : l.all goodE = true) (hd : (pthsE l).Nodup) (hl : l.length < 4294967290)
include hg hd hl
theorem put_any {m : List Ent} (hp : m.Perm l) : putA nd0 m = bldT l := by
  obtain ⟨k1, k2⟩ := bldT_ent hg (by omega) hd
  obtain ⟨j1, j2⟩ := putA_ent (t := nd0) nd0_ok (all_perm hp.symm hg)
  refine entP_inj j1 k1 (j2.trans ?_)
  rw [k2]
  exact (insA_perm hp.symm (good_rne hg) hd).symm
theorem want_len : (entP (bldT l)).length = l.length := by
  obtain ⟨k1, k2⟩ := bldT_ent hg (by omega) hd
  rw [entP_R k1, k2]
  have := (insA_len (l := l) Acc.nil (good_rne hg)).2
  rw [List.length_nil, Nat.zero_add] at this
  exact this.2 ⟨by simp, hd⟩
theorem want_none {q : List UInt8} (h : ∀ e ∈ l, e.1 ≠ q) : getR (bldT l) q = [] := by
  obtain ⟨k1, k2⟩ := bldT_ent hg (by omega) hd
  rw [getR_P, entP_R k1, k2, insA_look Acc.nil (good_rne hg) hd, look_none h]; simp [look]
theorem back_bld : bldP (entP (bldT l)) = (bldT l, 0) := by
  obtain ⟨k1, k2⟩ := bldT_ent hg (by omega) hd
  have hgd := gd_ent k1
  have hlen := want_len hg hd hl
  rw [entP_R k1] at hlen ⊢
  have hga : (entR (bldT l)).all goodE = true := by
    rw [List.all_eq_true]
    intro e he
    exact goodE_iff.2 ⟨isPath_iff.2 ⟨hgd.pne e he, hgd.len e he⟩, hgd.rne e he, hgd.right e he⟩
  have hnd := rise_nodup hgd.rise
  rw [bldP, if_pos hga, if_pos hnd]
  obtain ⟨j1, j2⟩ := bldT_ent hga (by omega) hnd
  rw [insA_self hgd.rise hgd.rne] at j2
  rw [entP_inj j1 k1 j2]
end
def pmT (t : Nd) (p : Bys) (rs : List Row) : Nd := if (putP t p rs).2 = 0 then (putP t p rs).1 else t
theorem pmT_get {t : Nd} (h : okR t = true) (p : Bys) (rs : List Row) : okR (pmT t p rs) = true ∧ ∀ q, getR (pmT t p rs) q = if q = p ∧ isPath p = true ∧ right rs = true then rs else getR t q := by
  unfold pmT putP
  by_cases c : isPath p = true ∧ right rs = true
  · have hc : okR t = true ∧ isPath p = true ∧ right rs = true := ⟨h, c⟩
    rw [if_pos hc]
    obtain ⟨p1, p2⟩ := isPath_iff.1 c.1
    refine ⟨(putR_ok h p1 p2 c.2).1, fun q => ?_⟩
    refine (getR_put h c.1 c.2 q).trans ?_
    by_cases e : q = p
    · rw [if_pos e, if_pos ⟨e, c⟩]
    · rw [if_neg e, if_neg fun k => e k.1]
  · have hn : ¬ (okR t = true ∧ isPath p = true ∧ right rs = true) := fun k => c k.2
    have h2 : ¬ (((Nd.node [] [] [], 2) : Nd × Int).2 = 0) := by simp
    rw [if_neg hn, if_neg h2]
    refine ⟨h, fun q => ?_⟩
    have h3 : ¬ (q = p ∧ isPath p = true ∧ right rs = true) := fun k => c k.2
    rw [if_neg h3]
def m1T (t : Nd) (ws : List Ent) : Nd := ws.foldl (fun t e => pmT t e.1 e.2) t
def m2T (t : Nd) (ws : List Ent) : Nd := ws.foldl (fun t e => pmT t e.1 []) t
theorem m1_get : ∀ {ws : List Ent} {t : Nd}, okR t = true → okR (m1T t ws) = true ∧ ∀ q, ((∀ e ∈ ws, e.1 ≠ q) ∨ isPath q = false) → getR (m1T t ws) q = getR t q
  | [], t, h => ⟨h, fun _ _ => rfl⟩
  | e :: ws, t, h => by
    obtain ⟨k1, k2⟩ := pmT_get h e.1 e.2
    obtain ⟨j1, j2⟩ := m1_get (ws := ws) k1
    refine ⟨j1, fun q hq => ?_⟩
    refine (j2 q (hq.imp (fun k x hx => k x (by simp [hx])) id)).trans ?_
    rw [k2, if_neg]
    rintro ⟨c1, c2, _⟩
    rcases hq with hq | hq
    · exact hq e (by simp) c1.symm
    · rw [c1, c2] at hq; cases hq
theorem m2_get : ∀ {ws : List Ent} {t : Nd}, okR t = true → okR (m2T t ws) = true ∧ ∀ q, getR (m2T t ws) q = if (∃ e ∈ ws, e.1 = q) ∧ isPath q = true then [] else getR t q
  | [], t, h => ⟨h, fun q => by rw [if_neg (by simp)]; rfl⟩
  | e :: ws, t, h => by
    obtain ⟨k1, k2⟩ := pmT_get h e.1 []
    obtain ⟨j1, j2⟩ := m2_get (ws := ws) k1
    refine ⟨j1, fun q => ?_⟩
    refine (j2 q).trans ?_
    have hr : right [] = true := rfl
    rw [k2]
    by_cases c : (∃ x ∈ ws, x.1 = q) ∧ isPath q = true
    · rw [if_pos c, if_pos]
      obtain ⟨⟨x, hx, hp⟩, c2⟩ := c
      exact ⟨⟨x, by simp [hx], hp⟩, c2⟩
    · rw [if_neg c]
      by_cases d : q = e.1 ∧ isPath e.1 = true
      · rw [if_pos ⟨d.1, d.2, hr⟩, if_pos ⟨⟨e, by simp, d.1.symm⟩, by rw [d.1]; exact d.2⟩]
      · rw [if_neg (fun k => d ⟨k.1, k.2.1⟩), if_neg]
        rintro ⟨⟨x, hx, hp⟩, c2⟩
        rcases List.mem_cons.1 hx with rfl | hx
        · exact d ⟨hp.symm, by rw [hp]; exact c2⟩
        · exact c ⟨⟨x, hx, hp⟩, c2⟩
theorem never {l ws : List Ent} (hg : l.all goodE = true) (hd : (pthsE l).Nodup) (hl : l.length < 4294967290) (h : ∀ w ∈ ws, ∀ e ∈ l, w.1 ≠ e.1) : m2T (m1T (bldT l) ws) ws = bldT l := by
  obtain ⟨k1, _⟩ := bldT_ent hg (by omega) hd
  obtain ⟨a1, a2⟩ := m1_get (ws := ws) k1
  obtain ⟨b1, b2⟩ := m2_get (ws := ws) a1
  refine tree_ext b1 k1 fun q => ?_
  rw [b2]
  by_cases c : ∃ w ∈ ws, w.1 = q
  · obtain ⟨w, hw, rfl⟩ := c
    have h0 : getR (bldT l) w.1 = [] := want_none hg hd hl fun e he k => h w hw e he k.symm
    split
    · exact h0.symm
    · rename_i k
      refine a2 w.1 (.inr ?_)
      cases hp : isPath w.1 with
      | false => rfl
      | true => exact absurd ⟨⟨w, hw, rfl⟩, hp⟩ k
  · rw [if_neg (fun k => c k.1)]
    exact a2 q (.inl fun e he k => c ⟨e, he, k⟩)
end Go.Proofs.YtgaabjmbnomimaaDoor
namespace Go.Proofs.YtgaabjmbnomimaaDoor
open Go Go.Ev
theorem hct8 : (ctOf [(17, s17n), (24, s24), (25, s25), (29, s29), (30, s30), (34, s34)]).ok E := ctOf_cons s17n_ok (ctOf_cons s24_ok (ctOf_cons s25_ok (ctOf_cons s29_ok (ctOf_cons s30_ok (ctOf_cons s34_ok ctOf_nil)))))
section
variable (l ws : List Ent) (W : Nd) (hl : l.length < 4294967290) (hw : ws.length < 4294967290)
abbrev sA8 (i : Nat) : Fr × Hp := s8_0 (ents l) (ents ws) none false none false i W.lab none false (rows W.rows) none false (encL W.kids)
abbrev xA8 : Ex × Fr × Hp := x8_0x0 W.lab none false (rows W.rows) none false (encL W.kids)
include hl hw
theorem inner8 {i : Nat} (hi : i < ws.length) : p8.ld b8_0 (Tr.ls 0 (s8_0_0 (ents l) (ents ws) none false none false i W.lab none false (rows W.rows) none false (encL W.kids) 0)) = if (l.any fun e => ws[i].1 == e.1) = true then some (R.x (xA8 W)) else some (R.s (sA8 l ws W (i + 1))) := by
  refine ld_post (p := p8) hct8 (by kernel_rfl) (by split <;> rfl) (list_post (p := p8) hct8 (b := b8_0_0) l.length (fun k (_ : Unit) => s8_0_0 (ents l) (ents ws) none false none false i W.lab none false (rows W.rows) none false (encL W.kids) k) (fun k _ => ((l.drop k).any fun e => ws[i].1 == e.1) = (l.any fun e => ws[i].1 == e.1)) _ ?_ ?_ 0 (Nat.zero_le _) () rfl)
  · intro k _ hk h
    rw [List.drop_eq_getElem_cons hk, List.any_cons] at h
    have go : p8.ld b8_0_0 (p8.lts b8_0_0 (s8_0_0 (ents l) (ents ws) none false none false i W.lab none false (rows W.rows) none false (encL W.kids) k)) = if (ws[i].1 == l[k].1) = true then some (R.x (x8_0_0x0 W.lab none false (rows W.rows) none false (encL W.kids))) else some (R.s (s8_0_0 (ents l) (ents ws) none false none false i W.lab none false (rows W.rows) none false (encL W.kids) ((k + 1 : Nat) : Int))) := by
      rw [t8_0_0]
      simp only [ld_br, ld_chk', ld_leaf, fd_br, fd_chk', fd_leaf, decide_true, decide_eq_true_eq, if_true, Int.toNat_natCast, Int.natCast_nonneg, Int.ofNat_lt, Int.ofNat_le, Bool.false_eq_true, if_false, bne_iff_ne, beq_iff_eq, ne_eq, not_true_eq_false, not_false_eq_true, Bool.not_eq_true', decide_eq_false_iff_not, reduceCtorEq, rows_length, pcs_length, er_ok, er_ok', ep_ok, ep_ok', dr_er, dp_ep, isRows_rows, isPcs_pcs, toRows_rows, toPcs_pcs, rows_take, rows_drop, pcs_take, pcs_drop, rows_append, pcs_append, ints_length, isInts_ints, toInts_ints, ei_i, ei_ok, mk_headD, ints_take, ints_drop, ints_append, ints_snoc, ints_snoc', List.take_length, Nat.zero_add, Nat.le_refl, er_a, er_b, er_k, er_n, er_s, er_v, ep_a, ep_b, ep_hk, ep_hn, ep_hs, ep_wk, ep_wn, ep_ws, ents_length, hk, hi, ents_getD hk, ents_getD hi, ee_ok, ee_p, wrap_succ (show k < 9223372036854775807 by omega)]
    cases c : (ws[i].1 == l[k].1) with
    | true =>
      rw [c, if_pos rfl] at go
      rw [c, Bool.true_or] at h
      refine .inr ⟨x8_0_0x0 W.lab none false (rows W.rows) none false (encL W.kids), by simp, ?_, go⟩
      rw [k8_0_0x0, ld_leaf, ← h]; rfl
    | false =>
      rw [c, if_neg (by simp)] at go
      rw [c, Bool.false_or] at h
      exact .inl ⟨(), h, go⟩
  · intro _ h
    rw [List.drop_length, List.any_nil] at h
    refine ⟨x8_0_0x1 (ents l) (ents ws) none false none false i W.lab none false (rows W.rows) none false (encL W.kids) l.length, by simp, ?_, ?_⟩
    · rw [k8_0_0x1, ld_leaf, ← h, wrap_succ (show i < 9223372036854775807 by omega)]; rfl
    · rw [t8_0_0]; simp only [ld_br, ld_chk', ld_leaf, fd_br, fd_chk', fd_leaf, decide_true, decide_eq_true_eq, if_true, Int.toNat_natCast, Int.natCast_nonneg, Int.ofNat_lt, Int.ofNat_le, Bool.false_eq_true, if_false, bne_iff_ne, beq_iff_eq, ne_eq, not_true_eq_false, not_false_eq_true, Bool.not_eq_true', decide_eq_false_iff_not, reduceCtorEq, rows_length, pcs_length, er_ok, er_ok', ep_ok, ep_ok', dr_er, dp_ep, isRows_rows, isPcs_pcs, toRows_rows, toPcs_pcs, rows_take, rows_drop, pcs_take, pcs_drop, rows_append, pcs_append, ints_length, isInts_ints, toInts_ints, ei_i, ei_ok, mk_headD, ints_take, ints_drop, ints_append, ints_snoc, ints_snoc', List.take_length, Nat.zero_add, Nat.le_refl, er_a, er_b, er_k, er_n, er_s, er_v, ep_a, ep_b, ep_hk, ep_hn, ep_hs, ep_wk, ep_wn, ep_ws, ents_length, Int.lt_irrefl]
theorem outer8 : ∃ x, (x = xA8 W ∨ ((∀ w ∈ ws, ∀ e ∈ l, w.1 ≠ e.1) ∧ x = x8_0x1 (ents l) (ents ws) none false none false ws.length W.lab none false (rows W.rows) none false (encL W.kids))) ∧ p8.Loops b8_0 (sA8 l ws W 0) x := by
  refine list_post (p := p8) hct8 (b := b8_0) ws.length (fun i (_ : Unit) => sA8 l ws W i) (fun i _ => ∀ w ∈ ws.take i, ∀ e ∈ l, w.1 ≠ e.1) _ ?_ ?_ 0 (Nat.zero_le _) () (by simp)
  · intro i _ hi h
    have go : p8.ld b8_0 (p8.lts b8_0 (sA8 l ws W i)) = if (l.any fun e => ws[i].1 == e.1) = true then some (R.x (xA8 W)) else some (R.s (sA8 l ws W (i + 1))) := by
      show p8.ld b8_0 (p8.lts b8_0 (s8_0 (ents l) (ents ws) none false none false i W.lab none false (rows W.rows) none false (encL W.kids))) = _
      rw [t8_0, ld_br, if_pos (by rw [ents_length]; exact decide_eq_true (by omega))]
      exact inner8 l ws W hl hw hi
    cases c : (l.any fun e => ws[i].1 == e.1) with
    | true =>
      rw [c, if_pos rfl] at go
      exact .inr ⟨_, by simp, .inl rfl, go⟩
    | false =>
      rw [c, if_neg (by simp)] at go
      refine .inl ⟨(), fun w hm e he => ?_, go⟩
      rw [List.take_succ_eq_append_getElem hi, List.mem_append] at hm
      rcases hm with hm | hm
      · exact h w hm e he
      · simp only [List.mem_singleton] at hm
        subst hm
        rw [List.any_eq_false] at c
        have := c e he
        simpa using this
  · intro _ h
    rw [List.take_length] at h
    refine ⟨_, ?_, .inr ⟨h, rfl⟩, ?_⟩
    · simp
    · rw [t8_0]; simp only [ld_br, ld_chk', ld_leaf, fd_br, fd_chk', fd_leaf, decide_true, decide_eq_true_eq, if_true, Int.toNat_natCast, Int.natCast_nonneg, Int.ofNat_lt, Int.ofNat_le, Bool.false_eq_true, if_false, bne_iff_ne, beq_iff_eq, ne_eq, not_true_eq_false, not_false_eq_true, Bool.not_eq_true', decide_eq_false_iff_not, reduceCtorEq, rows_length, pcs_length, er_ok, er_ok', ep_ok, ep_ok', dr_er, dp_ep, isRows_rows, isPcs_pcs, toRows_rows, toPcs_pcs, rows_take, rows_drop, pcs_take, pcs_drop, rows_append, pcs_append, ints_length, isInts_ints, toInts_ints, ei_i, ei_ok, mk_headD, ints_take, ints_drop, ints_append, ints_snoc, ints_snoc', List.take_length, Nat.zero_add, Nat.le_refl, er_a, er_b, er_k, er_n, er_s, er_v, ep_a, ep_b, ep_hk, ep_hn, ep_hs, ep_wk, ep_wn, ep_ws, ents_length, Int.lt_irrefl]
end
abbrev Fl := Option Bool × Bool × Option Bool × Bool
abbrev bx8 (l ws : List Ent) (W : Nd) (k : Nat) (t : Nd) (f : Fl) (u : Nd) (g : Fl) : Fr × Hp := s8_1 (ents l) (ents ws) none false none false W.lab none false (rows W.rows) none false (encL W.kids) k t.lab f.1 f.2.1 (rows t.rows) f.2.2.1 f.2.2.2 (encL t.kids) u.lab g.1 g.2.1 (rows u.rows) g.2.2.1 g.2.2.2 (encL u.kids)
abbrev fl0 : Fl := (some true, true, some true, true)
abbrev flN : Fl := (none, false, none, false)
theorem both8 {l ws : List Ent} {W : Nd} (hg : l.all goodE = true) (hl : l.length < 4294967290) : ∃ x, (∃ f g : Fl, x = x8_1x1 (ents l) (ents ws) none false none false W.lab none false (rows W.rows) none false (encL W.kids) l.length (putA nd0 l).lab f.1 f.2.1 (rows (putA nd0 l).rows) f.2.2.1 f.2.2.2 (encL (putA nd0 l).kids) (putA nd0 l.reverse).lab g.1 g.2.1 (rows (putA nd0 l.reverse).rows) g.2.2.1 g.2.2.2 (encL (putA nd0 l.reverse).kids)) ∧
    p8.Loops b8_1 (bx8 l ws W 0 nd0 fl0 nd0 fl0) x := by
  refine list_post (p := p8) hct8 (b := b8_1) l.length (fun k (s : (Nd × Fl) × (Nd × Fl)) => bx8 l ws W k s.1.1 s.1.2 s.2.1 s.2.2) (fun k s => s.1.1 = putA nd0 (l.take k) ∧ s.2.1 = putA nd0 (l.reverse.take k)) _ ?_ ?_ 0 (Nat.zero_le _) ((nd0, fl0), (nd0, fl0)) ⟨rfl, rfl⟩
  · rintro k ⟨⟨t, f⟩, ⟨u, g⟩⟩ hk ⟨h1, h2⟩
    dsimp only at h1 h2 ⊢
    left
    have hkr : k < l.reverse.length := by rw [List.length_reverse]; exact hk
    have hj : l.length - 1 - k < l.length := by omega
    have hrev : l.reverse[k] = l[l.length - 1 - k] := List.getElem_reverse hkr
    have hgr : l.reverse.all goodE = true := all_perm (List.reverse_perm l).symm hg
    have tk : ∀ {m : List Ent}, m.all goodE = true → ∀ j, (m.take j).all goodE = true := fun {m} hm j => by
      rw [List.all_eq_true] at hm ⊢
      exact fun e he => hm e (List.mem_of_mem_take he)
    have step : ∀ {m : List Ent} {v : Nd} {j : Nat} (hj : j < m.length), m.all goodE = true → v = putA nd0 (m.take j) → putP v m[j].1 m[j].2 = (putA nd0 (m.take (j + 1)), 0) := fun {m v j} hj hm hv => by
      obtain ⟨a1, a2, a3⟩ := goodE_iff.1 (List.all_eq_true.1 hm _ (List.getElem_mem hj))
      have ho : okR v = true := by rw [hv]; exact (putA_ent nd0_ok (tk hm j)).1
      rw [putP, if_pos ⟨ho, a1, a3⟩, List.take_succ_eq_append_getElem hj, hv]
      unfold putA
      rw [List.foldl_append]; rfl
    have s1 := step hk hg h1
    have s2 := step hkr hgr h2
    rw [hrev] at s2
    have w1 : IntKind.wrap .i64 ((l.length : Int) - 1) = ((l.length - 1 : Nat) : Int) := wrap_pred (by omega) (by omega)
    have w2 : IntKind.wrap .i64 (((l.length - 1 : Nat) : Int) - (k : Nat)) = ((l.length - 1 - k : Nat) : Int) := by rw [wrap_same (by omega) (by omega)]; omega
    refine ⟨((putA nd0 (l.take (k + 1)), flN), (putA nd0 (l.reverse.take (k + 1)), flN)), ⟨rfl, rfl⟩, ?_⟩
    rw [t8_1]
    simp only [c8_1_1, c8_1_2, c8_1_3, nd_ok, nd_lab, nd_rows, nd_kids, encL_length, isL_enc, decL_enc, wrap_hd, hd_pos, ld_br, ld_chk', ld_leaf, fd_br, fd_chk', fd_leaf, decide_true, decide_eq_true_eq, if_true, Int.toNat_natCast, Int.natCast_nonneg, Int.ofNat_lt, Int.ofNat_le, Bool.false_eq_true, if_false, bne_iff_ne, beq_iff_eq, ne_eq, not_true_eq_false, not_false_eq_true, Bool.not_eq_true', decide_eq_false_iff_not, reduceCtorEq, rows_length, pcs_length, er_ok, er_ok', ep_ok, ep_ok', dr_er, dp_ep, isRows_rows, isPcs_pcs, toRows_rows, toPcs_pcs, rows_take, rows_drop, pcs_take, pcs_drop, rows_append, pcs_append, ints_length, isInts_ints, toInts_ints, ei_i, ei_ok, mk_headD, ints_take, ints_drop, ints_append, ints_snoc, ints_snoc', List.take_length, Nat.zero_add, Nat.le_refl, er_a, er_b, er_k, er_n, er_s, er_v, ep_a, ep_b, ep_hk, ep_hn, ep_hs, ep_wk, ep_wn, ep_ws, Nd.eta, ents_length, hk, hj, ents_getD hk, ents_getD hj, ee_ok, ee_p, ee_r, w1, w2, s1, s2, bne_self_eq_false, wrap_succ (show k < 9223372036854775807 by omega)]
  · rintro ⟨⟨t, f⟩, ⟨u, g⟩⟩ ⟨h1, h2⟩
    dsimp only at h1 h2 ⊢
    rw [List.take_length] at h1
    rw [List.take_of_length_le (by rw [List.length_reverse]; exact Nat.le_refl _)] at h2
    subst h1 h2
    refine ⟨_, ?_, ⟨f, g, rfl⟩, ?_⟩
    · simp
    · rw [t8_1]; simp only [ld_br, ld_chk', ld_leaf, fd_br, fd_chk', fd_leaf, decide_true, decide_eq_true_eq, if_true, Int.toNat_natCast, Int.natCast_nonneg, Int.ofNat_lt, Int.ofNat_le, Bool.false_eq_true, if_false, bne_iff_ne, beq_iff_eq, ne_eq, not_true_eq_false, not_false_eq_true, Bool.not_eq_true', decide_eq_false_iff_not, reduceCtorEq, rows_length, pcs_length, er_ok, er_ok', ep_ok, ep_ok', dr_er, dp_ep, isRows_rows, isPcs_pcs, toRows_rows, toPcs_pcs, rows_take, rows_drop, pcs_take, pcs_drop, rows_append, pcs_append, ints_length, isInts_ints, toInts_ints, ei_i, ei_ok, mk_headD, ints_take, ints_drop, ints_append, ints_snoc, ints_snoc', List.take_length, Nat.zero_add, Nat.le_refl, er_a, er_b, er_k, er_n, er_s, er_v, ep_a, ep_b, ep_hk, ep_hn, ep_hs, ep_wk, ep_wn, ep_ws, ents_length, Int.lt_irrefl]
section
variable (l ws : List Ent) (W : Nd) (u : Nd) (g : Fl) (hw : ws.length < 4294967290)
include hw
theorem more8 (t : Nd) (f : Fl) : ∃ x, (∃ f' : Fl, x = x8_2x0 (ents l) (ents ws) none false none false W.lab none false (rows W.rows) none false (encL W.kids) (m1T t ws).lab f'.1 f'.2.1 (rows (m1T t ws).rows) f'.2.2.1 f'.2.2.2 (encL (m1T t ws).kids) u.lab g.1 g.2.1 (rows u.rows) g.2.2.1 g.2.2.2 (encL u.kids) ws.length) ∧
    p8.Loops b8_2 (s8_2 (ents l) (ents ws) none false none false W.lab none false (rows W.rows) none false (encL W.kids) t.lab f.1 f.2.1 (rows t.rows) f.2.2.1 f.2.2.2 (encL t.kids) u.lab g.1 g.2.1 (rows u.rows) g.2.2.1 g.2.2.2 (encL u.kids) 0) x := by
  refine list_post (p := p8) hct8 (b := b8_2) ws.length (fun k (s : Nd × Fl) => s8_2 (ents l) (ents ws) none false none false W.lab none false (rows W.rows) none false (encL W.kids) s.1.lab s.2.1 s.2.2.1 (rows s.1.rows) s.2.2.2.1 s.2.2.2.2 (encL s.1.kids) u.lab g.1 g.2.1 (rows u.rows) g.2.2.1 g.2.2.2 (encL u.kids) k)
    (fun k s => m1T s.1 (ws.drop k) = m1T t ws) _ ?_ ?_ 0 (Nat.zero_le _) (t, f) rfl
  · rintro k ⟨v, f⟩ hk h
    dsimp only at h ⊢
    rw [List.drop_eq_getElem_cons hk] at h
    left
    by_cases c : (putP v ws[k].1 ws[k].2).2 = 0
    · refine ⟨((putP v ws[k].1 ws[k].2).1, flN), ?_, ?_⟩
      · rw [← h]
        show _ = m1T (pmT v ws[k].1 ws[k].2) _
        rw [pmT, if_pos c]
      · rw [t8_2]
        simp only [nd_ok, nd_lab, nd_rows, nd_kids, encL_length, isL_enc, decL_enc, wrap_hd, hd_pos, ld_br, ld_chk', ld_leaf, fd_br, fd_chk', fd_leaf, decide_true, decide_eq_true_eq, if_true, Int.toNat_natCast, Int.natCast_nonneg, Int.ofNat_lt, Int.ofNat_le, Bool.false_eq_true, if_false, bne_iff_ne, beq_iff_eq, ne_eq, not_true_eq_false, not_false_eq_true, Bool.not_eq_true', decide_eq_false_iff_not, reduceCtorEq, rows_length, pcs_length, er_ok, er_ok', ep_ok, ep_ok', dr_er, dp_ep, isRows_rows, isPcs_pcs, toRows_rows, toPcs_pcs, rows_take, rows_drop, pcs_take, pcs_drop, rows_append, pcs_append, ints_length, isInts_ints, toInts_ints, ei_i, ei_ok, mk_headD, ints_take, ints_drop, ints_append, ints_snoc, ints_snoc', List.take_length, Nat.zero_add, Nat.le_refl, er_a, er_b, er_k, er_n, er_s, er_v, ep_a, ep_b, ep_hk, ep_hn, ep_hs, ep_wk, ep_wn, ep_ws, Nd.eta, ents_length, hk, ents_getD hk, ee_ok, ee_p, ee_r, c, wrap_succ (show k < 9223372036854775807 by omega)]
    · refine ⟨(v, f), ?_, ?_⟩
      · rw [← h]
        show _ = m1T (pmT v ws[k].1 ws[k].2) _
        rw [pmT, if_neg c]
      · rw [t8_2]
        simp only [nd_ok, nd_lab, nd_rows, nd_kids, encL_length, isL_enc, decL_enc, wrap_hd, hd_pos, ld_br, ld_chk', ld_leaf, fd_br, fd_chk', fd_leaf, decide_true, decide_eq_true_eq, if_true, Int.toNat_natCast, Int.natCast_nonneg, Int.ofNat_lt, Int.ofNat_le, Bool.false_eq_true, if_false, bne_iff_ne, beq_iff_eq, ne_eq, not_true_eq_false, not_false_eq_true, Bool.not_eq_true', decide_eq_false_iff_not, reduceCtorEq, rows_length, pcs_length, er_ok, er_ok', ep_ok, ep_ok', dr_er, dp_ep, isRows_rows, isPcs_pcs, toRows_rows, toPcs_pcs, rows_take, rows_drop, pcs_take, pcs_drop, rows_append, pcs_append, ints_length, isInts_ints, toInts_ints, ei_i, ei_ok, mk_headD, ints_take, ints_drop, ints_append, ints_snoc, ints_snoc', List.take_length, Nat.zero_add, Nat.le_refl, er_a, er_b, er_k, er_n, er_s, er_v, ep_a, ep_b, ep_hk, ep_hn, ep_hs, ep_wk, ep_wn, ep_ws, Nd.eta, ents_length, hk, ents_getD hk, ee_ok, ee_p, ee_r, c, wrap_succ (show k < 9223372036854775807 by omega)]
  · rintro ⟨v, f⟩ h
    dsimp only at h ⊢
    rw [List.drop_length] at h
    have h : v = m1T t ws := h
    subst h
    refine ⟨_, ?_, ⟨f, rfl⟩, ?_⟩
    · simp
    · rw [t8_2]; simp only [ld_br, ld_chk', ld_leaf, fd_br, fd_chk', fd_leaf, decide_true, decide_eq_true_eq, if_true, Int.toNat_natCast, Int.natCast_nonneg, Int.ofNat_lt, Int.ofNat_le, Bool.false_eq_true, if_false, bne_iff_ne, beq_iff_eq, ne_eq, not_true_eq_false, not_false_eq_true, Bool.not_eq_true', decide_eq_false_iff_not, reduceCtorEq, rows_length, pcs_length, er_ok, er_ok', ep_ok, ep_ok', dr_er, dp_ep, isRows_rows, isPcs_pcs, toRows_rows, toPcs_pcs, rows_take, rows_drop, pcs_take, pcs_drop, rows_append, pcs_append, ints_length, isInts_ints, toInts_ints, ei_i, ei_ok, mk_headD, ints_take, ints_drop, ints_append, ints_snoc, ints_snoc', List.take_length, Nat.zero_add, Nat.le_refl, er_a, er_b, er_k, er_n, er_s, er_v, ep_a, ep_b, ep_hk, ep_hn, ep_hs, ep_wk, ep_wn, ep_ws, ents_length, Int.lt_irrefl]
theorem less8 (t : Nd) (f : Fl) : ∃ x, (∃ f' : Fl, x = x8_3x0 (ents l) (ents ws) none false none false W.lab none false (rows W.rows) none false (encL W.kids) (m2T t ws).lab f'.1 f'.2.1 (rows (m2T t ws).rows) f'.2.2.1 f'.2.2.2 (encL (m2T t ws).kids) u.lab g.1 g.2.1 (rows u.rows) g.2.2.1 g.2.2.2 (encL u.kids) ws.length) ∧
    p8.Loops b8_3 (s8_3 (ents l) (ents ws) none false none false W.lab none false (rows W.rows) none false (encL W.kids) t.lab f.1 f.2.1 (rows t.rows) f.2.2.1 f.2.2.2 (encL t.kids) u.lab g.1 g.2.1 (rows u.rows) g.2.2.1 g.2.2.2 (encL u.kids) 0) x := by
  have hnil : toRows [] = [] := rfl
  refine list_post (p := p8) hct8 (b := b8_3) ws.length (fun k (s : Nd × Fl) => s8_3 (ents l) (ents ws) none false none false W.lab none false (rows W.rows) none false (encL W.kids) s.1.lab s.2.1 s.2.2.1 (rows s.1.rows) s.2.2.2.1 s.2.2.2.2 (encL s.1.kids) u.lab g.1 g.2.1 (rows u.rows) g.2.2.1 g.2.2.2 (encL u.kids) k)
    (fun k s => m2T s.1 (ws.drop k) = m2T t ws) _ ?_ ?_ 0 (Nat.zero_le _) (t, f) rfl
  · rintro k ⟨v, f⟩ hk h
    dsimp only at h ⊢
    rw [List.drop_eq_getElem_cons hk] at h
    left
    by_cases c : (putP v ws[k].1 []).2 = 0
    · refine ⟨((putP v ws[k].1 []).1, flN), ?_, ?_⟩
      · rw [← h]
        show _ = m2T (pmT v ws[k].1 []) _
        rw [pmT, if_pos c]
      · rw [t8_3]
        simp only [nd_ok, nd_lab, nd_rows, nd_kids, encL_length, isL_enc, decL_enc, wrap_hd, hd_pos, ld_br, ld_chk', ld_leaf, fd_br, fd_chk', fd_leaf, decide_true, decide_eq_true_eq, if_true, Int.toNat_natCast, Int.natCast_nonneg, Int.ofNat_lt, Int.ofNat_le, Bool.false_eq_true, if_false, bne_iff_ne, beq_iff_eq, ne_eq, not_true_eq_false, not_false_eq_true, Bool.not_eq_true', decide_eq_false_iff_not, reduceCtorEq, rows_length, pcs_length, er_ok, er_ok', ep_ok, ep_ok', dr_er, dp_ep, isRows_rows, isPcs_pcs, toRows_rows, toPcs_pcs, rows_take, rows_drop, pcs_take, pcs_drop, rows_append, pcs_append, ints_length, isInts_ints, toInts_ints, ei_i, ei_ok, mk_headD, ints_take, ints_drop, ints_append, ints_snoc, ints_snoc', List.take_length, Nat.zero_add, Nat.le_refl, er_a, er_b, er_k, er_n, er_s, er_v, ep_a, ep_b, ep_hk, ep_hn, ep_hs, ep_wk, ep_wn, ep_ws, Nd.eta, ents_length, hk, ents_getD hk, ee_ok, ee_p, hnil, c, wrap_succ (show k < 9223372036854775807 by omega)]
    · refine ⟨(v, f), ?_, ?_⟩
      · rw [← h]
        show _ = m2T (pmT v ws[k].1 []) _
        rw [pmT, if_neg c]
      · rw [t8_3]
        simp only [nd_ok, nd_lab, nd_rows, nd_kids, encL_length, isL_enc, decL_enc, wrap_hd, hd_pos, ld_br, ld_chk', ld_leaf, fd_br, fd_chk', fd_leaf, decide_true, decide_eq_true_eq, if_true, Int.toNat_natCast, Int.natCast_nonneg, Int.ofNat_lt, Int.ofNat_le, Bool.false_eq_true, if_false, bne_iff_ne, beq_iff_eq, ne_eq, not_true_eq_false, not_false_eq_true, Bool.not_eq_true', decide_eq_false_iff_not, reduceCtorEq, rows_length, pcs_length, er_ok, er_ok', ep_ok, ep_ok', dr_er, dp_ep, isRows_rows, isPcs_pcs, toRows_rows, toPcs_pcs, rows_take, rows_drop, pcs_take, pcs_drop, rows_append, pcs_append, ints_length, isInts_ints, toInts_ints, ei_i, ei_ok, mk_headD, ints_take, ints_drop, ints_append, ints_snoc, ints_snoc', List.take_length, Nat.zero_add, Nat.le_refl, er_a, er_b, er_k, er_n, er_s, er_v, ep_a, ep_b, ep_hk, ep_hn, ep_hs, ep_wk, ep_wn, ep_ws, Nd.eta, ents_length, hk, ents_getD hk, ee_ok, ee_p, hnil, c, wrap_succ (show k < 9223372036854775807 by omega)]
  · rintro ⟨v, f⟩ h
    dsimp only at h ⊢
    rw [List.drop_length] at h
    have h : v = m2T t ws := h
    subst h
    refine ⟨_, ?_, ⟨f, rfl⟩, ?_⟩
    · simp
    · rw [t8_3]; simp only [ld_br, ld_chk', ld_leaf, fd_br, fd_chk', fd_leaf, decide_true, decide_eq_true_eq, if_true, Int.toNat_natCast, Int.natCast_nonneg, Int.ofNat_lt, Int.ofNat_le, Bool.false_eq_true, if_false, bne_iff_ne, beq_iff_eq, ne_eq, not_true_eq_false, not_false_eq_true, Bool.not_eq_true', decide_eq_false_iff_not, reduceCtorEq, rows_length, pcs_length, er_ok, er_ok', ep_ok, ep_ok', dr_er, dp_ep, isRows_rows, isPcs_pcs, toRows_rows, toPcs_pcs, rows_take, rows_drop, pcs_take, pcs_drop, rows_append, pcs_append, ints_length, isInts_ints, toInts_ints, ei_i, ei_ok, mk_headD, ints_take, ints_drop, ints_append, ints_snoc, ints_snoc', List.take_length, Nat.zero_add, Nat.le_refl, er_a, er_b, er_k, er_n, er_s, er_v, ep_a, ep_b, ep_hk, ep_hn, ep_hs, ep_wk, ep_wn, ep_ws, ents_length, Int.lt_irrefl]
end
theorem f8 (l ws : List Ent) : call E 8 [.c (.sl 2 none false (ents l)), .c (.sl 2 none false (ents ws))] [] = some ([V.b true], []) := by
  refine call_of (E := E) (sh := sh) (ct := ctOf [(17, s17n), (24, s24), (25, s25), (29, s29), (30, s30), (34, s34)]) (na := 2) (m := 0) hct8 rfl rfl rfl rfl rfl rfl ?_
  show p8.fd (p8.ft _ _) = _
  rw [t8]
  simp only [fd_br, fd_chk', fd_leaf, if_true, isEs_ents, toEs_ents, ents_length, Bool.not_eq_true']
  by_cases s1 : fewE' l = false
  · rw [if_pos s1]
  rw [if_neg s1]
  by_cases s2 : fewE' ws = false
  · rw [if_pos s2]
  rw [if_neg s2]
  rw [Bool.not_eq_false] at s1 s2
  have hl60 : l.length ≤ 60 := by simp only [fewE', Bool.and_eq_true, decide_eq_true_eq] at s1; exact s1.1
  have hl : l.length < 4294967290 := by omega
  have hw : ws.length < 4294967290 := by simp only [fewE', Bool.and_eq_true, decide_eq_true_eq] at s2; omega
  rw [decide_eq_true hl, if_pos rfl]
  by_cases hg : l.all goodE = true
  case neg =>
    have : (bldP l).2 = 2 := by rw [bldP, if_neg hg]
    rw [this]; rfl
  by_cases hd : (pthsE l).Nodup
  case neg =>
    have : (bldP l).2 = 16 := by rw [bldP, if_pos hg, if_neg hd]
    rw [this]; rfl
  have hb : bldP l = (bldT l, 0) := by rw [bldP, if_pos hg, if_pos hd]
  rw [hb]
  have hok := (bldT_ent hg (by omega) hd).1
  rw [if_neg (by simp)]
  obtain ⟨x, hx, hL⟩ := outer8 l ws (bldT l) hl hw
  refine fd_post (p := p8) hct8 (by kernel_rfl) rfl ⟨x, ?_, hL⟩
  rcases hx with rfl | ⟨hno, rfl⟩
  · show p8.fd (p8.fkx 0 (x8_0x0 (bldT l).lab none false (rows (bldT l).rows) none false (encL (bldT l).kids))) = _
    rw [k8_0x0, fd_leaf]
  · rw [k8_0x1]
    obtain ⟨_, ⟨f, g, rfl⟩, hL⟩ := both8 (l := l) (ws := ws) (W := bldT l) hg hl
    refine fd_post (p := p8) hct8 (by kernel_rfl) rfl ⟨_, ?_, hL⟩
    rw [k8_1x1, put_any hg hd hl (List.Perm.refl l), put_any hg hd hl (List.reverse_perm l)]
    obtain ⟨_, ⟨f2, rfl⟩, hL⟩ := more8 l ws (bldT l) (bldT l) g hw (bldT l) f
    refine fd_post (p := p8) hct8 (by kernel_rfl) rfl ⟨_, ?_, hL⟩
    rw [k8_2x0]
    obtain ⟨_, ⟨f3, rfl⟩, hL⟩ := less8 l ws (bldT l) (bldT l) g hw (m1T (bldT l) ws) f2
    refine fd_post (p := p8) hct8 (by kernel_rfl) rfl ⟨_, ?_, hL⟩
    rw [k8_3x0, never hg hd hl hno]
    have hlen := want_len hg hd hl
    have hk : (entL (bldT l).kids).length < 1000000000 := by
      have : (entP (bldT l)).length = (entL (bldT l).kids).length := by rw [entP_R hok]; rfl
      omega
    have hk2 : (entP (bldT l)).length < 4294967290 := by omega
    simp only [fd_br, fd_chk', fd_leaf, if_true, toRows_rows, decL_enc, Nd.eta, isRows_rows, isL_enc, isEs_ents, toEs_ents, ents_length, hk, hk2, hl, back_bld hg hd hl, okR_lens hok, sameT_refl, hlen, beq_self_eq_true, decide_true]
end Go.Proofs.YtgaabjmbnomimaaDoor
namespace Go.Proofs.YtgaabjmbnomimaaDoor
open Go Go.Ev
theorem l8 (l m : Le) : call E 8 [.c (.sl 2 none false (ents l.l)), .c (.sl 2 none false (ents m.l))] [] = some ([V.b true], []) := f8 l.l m.l
end Go.Proofs.YtgaabjmbnomimaaDoor
