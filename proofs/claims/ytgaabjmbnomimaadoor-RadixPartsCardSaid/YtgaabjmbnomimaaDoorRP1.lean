/-
  Radix trees: place, Clone, below; Radix trees: trees, written by a program: Check, Get; the reference's Right, Entries, Get; what is small; Radix trees: Check, Get; the reference's Right; Radix trees: the reference's entries and Get; how many nodes are left; Radix trees, plain: what putting rows under a path makes of a tree, and what that has; Radix trees, plain: the tree that the reference makes of a right tree's entries is that tree; Radix trees: putting: copied, shared, split, place over an own row; Radix trees: putting: trees, written by a program: place over an own row, joined, put, Put; .
-/
import Derived.Sort.AssemblyPlain
import Derived.Test.YtgaabjmbnomimaaDoorProg
import Derived.Shelf.Unicode.DecodeAny
import Derived.Shelf.Small.Strs
import Derived.Shelf.Small.Wraps
import Derived.Shelf.SlSortCmp.WholeK
import Derived.Tactics
import Derived.Tactics2
import Derived.Defers
import Derived.Recover
import Derived.Laws.Pointers
import Derived.Laws.RangeString
import Derived.WalkKit
import Derived.WalkSmall
import Derived.LoopTactic
import Derived.Lib.OthersKept
import Derived.WalkSpells
import Derived.Deep.LoopGhost
import Derived.BigQuiet
import Derived.Deep.QuietTactic
import Derived.Lib.TrimUEq
import Derived.Lib.ByteType
import Derived.RangeFuncRecord
import Derived.Shelf.SlSortCmp.InsertionK
import Derived.Test.YtgaabjmbnomimaaDoorRows
import Derived.ProofKit
import Derived.OpenShut
import Derived.Below
import Derived.Deep.DeepHandedRow
import Derived.Lib.LaidU8T
import Derived.PinnedBridge
import Derived.Test.YtgaabjmbnomimaaDoorEvT
import Derived.Test.YtgaabjmbnomimaaDoorARunD
set_option linter.all false
namespace Go.Proofs.YtgaabjmbnomimaaDoor
open Go Go.Ev
theorem nd_ok (t : Nd) : shOk [Sk.str, Sk.sl 5, Sk.sl 3] t.enc = true := by rw [Nd.enc_eq]; rfl
theorem nd_lab (t : Nd) (d : C) : ((t.enc).headD d).st = t.lab := by rw [Nd.enc_eq]; rfl
theorem nd_rows (t : Nd) (d : C) : ((t.enc).tail.headD d).xs = rows t.rows := by rw [Nd.enc_eq]; rfl
theorem nd_kids (t : Nd) (d : C) : ((t.enc).tail.tail.headD d).xs = encL t.kids := by rw [Nd.enc_eq]; rfl
theorem hd_getD (s : Bys) : (((s.getD (Int.toNat 0) 0).toNat : Nat) : Int) = hdB s := by cases s <;> rfl
theorem wrap_hd (s : Bys) : IntKind.wrap .i64 (((s.getD (Int.toNat 0) 0).toNat : Nat) : Int) = hdB s := by
  rw [hd_getD]
  have := hdB_lt s
  exact wrap_same (by omega) (by omega)
theorem hd_pos (s : Bys) : (Int.toNat 0 < s.length) = (s ≠ []) := by
  cases s <;> simp
theorem f124 (s : Bys) (xs ys : LLC) (b : Int) (hs : s ≠ []) (h0 : 0 ≤ b) (h1 : b ≤ 255) : call E 124 [.agg [.c (.str s), .c (.sl 5 none false xs), .c (.sl 3 none false ys)], .c (.int .u8 b)] [] = some ([V.i (hdB s - b)], []) := by
  refine call_of (E := E) (sh := sh) (ct := ctOf []) (na := 2) (m := 0) ctOf_nil rfl rfl rfl rfl rfl rfl ?_
  rw [t124]
  have h2 := hdB_lt s
  have w1 : IntKind.wrap .i64 b = b := wrap_same (by omega) (by omega)
  have w2 : IntKind.wrap .i64 (hdB s - b) = hdB s - b := wrap_same (by omega) (by omega)
  simp only [nd_ok, nd_lab, nd_rows, nd_kids, encL_length, isL_enc, decL_enc, wrap_hd, hd_pos, ld_br, ld_chk', ld_leaf, fd_br, fd_chk', fd_leaf, decide_true, decide_eq_true_eq, if_true, Int.toNat_natCast, Int.natCast_nonneg, Int.ofNat_lt, Int.ofNat_le, Bool.false_eq_true, if_false, bne_iff_ne, beq_iff_eq, ne_eq, not_true_eq_false, not_false_eq_true, Bool.not_eq_true', decide_eq_false_iff_not, reduceCtorEq, rows_length, pcs_length, er_ok, er_ok', ep_ok, ep_ok', dr_er, dp_ep, isRows_rows, isPcs_pcs, toRows_rows, toPcs_pcs, rows_take, rows_drop, pcs_take, pcs_drop, rows_append, pcs_append, ints_length, isInts_ints, toInts_ints, ei_i, ei_ok, mk_headD, ints_take, ints_drop, ints_append, ints_snoc, ints_snoc', List.take_length, Nat.zero_add, Nat.le_refl, er_a, er_b, er_k, er_n, er_s, er_v, ep_a, ep_b, ep_hk, ep_hn, ep_hs, ep_wk, ep_wn, ep_ws, w1, w2, hs]
theorem s124_ok : CSpecOk E 124 s124 := by
  intro a h cs vals h' he hc
  unfold s124 at he
  split at he <;> simp only [Option.some.injEq, Prod.mk.injEq, reduceCtorEq] at he
  rename_i s xs ys b
  obtain ⟨rfl, rfl, rfl⟩ := he
  simp only [allT, Bool.and_true, Bool.and_eq_true, decide_eq_true_eq] at hc
  obtain ⟨h1, h2, h3⟩ := hc
  exact f124 s xs ys b h1 h2 h3
theorem labs_mem {l : List Nd} (h : labsOk l = true) {k : Nat} (hk : k < l.length) : l[k].lab ≠ [] := by
  have := List.all_eq_true.1 h l[k] (List.getElem_mem hk)
  simpa using this
theorem f123 (l : List Nd) (nl : OBo) (tt : Bool) (b : Int) (hl : labsOk l = true) (h0 : 0 ≤ b) (h1 : b ≤ 255) (hlen : l.length < 4294967296) : call E 123 [.c (.sl 3 nl tt (encL l)), .c (.int .u8 b), .fn 124 []] [] = some ([V.i (posK l b), V.b (hitK l b)], []) := by
  have hct : (ctOf [(124, s124)]).ok E := ctOf_cons s124_ok ctOf_nil
  refine call_of (E := E) (sh := sh) (ct := ctOf [(124, s124)]) (na := 3) (m := 0) hct rfl rfl rfl rfl rfl rfl ?_
  rw [t123, encL_length]
  refine fd_post hct (by kernel_rfl) rfl (loops_post hct (b := b123_0) (ι := Nat × Nat) (fun i => s123_0 nl tt (encL l) b l.length i.1 i.2) (fun i => i.1 ≤ i.2 ∧ i.2 ≤ l.length ∧ bsK l b (i.2 - i.1) i.1 i.2 = posK l b) (fun i => i.2 - i.1) _ ?_ (0, l.length) ⟨Nat.zero_le _, Nat.le_refl _, rfl⟩)
  rintro ⟨lo, hi⟩ ⟨g1, g2, g9003⟩
  dsimp only at g1 g2 g9003 ⊢
  rw [t123_0]
  by_cases hlt : lo < hi
  · have hm : (lo + hi) / 2 < l.length := by omega
    left
    rw [half_wrap (by omega)]
    have hne := labs_mem hl hm
    simp only [nd_ok, nd_lab, nd_rows, nd_kids, encL_length, isL_enc, decL_enc, wrap_hd, hd_pos, ld_br, ld_chk', ld_leaf, fd_br, fd_chk', fd_leaf, decide_true, decide_eq_true_eq, if_true, Int.toNat_natCast, Int.natCast_nonneg, Int.ofNat_lt, Int.ofNat_le, Bool.false_eq_true, if_false, bne_iff_ne, beq_iff_eq, ne_eq, not_true_eq_false, not_false_eq_true, Bool.not_eq_true', decide_eq_false_iff_not, reduceCtorEq, rows_length, pcs_length, er_ok, er_ok', ep_ok, ep_ok', dr_er, dp_ep, isRows_rows, isPcs_pcs, toRows_rows, toPcs_pcs, rows_take, rows_drop, pcs_take, pcs_drop, rows_append, pcs_append, ints_length, isInts_ints, toInts_ints, ei_i, ei_ok, mk_headD, ints_take, ints_drop, ints_append, ints_snoc, ints_snoc', List.take_length, Nat.zero_add, Nat.le_refl, er_a, er_b, er_k, er_n, er_s, er_v, ep_a, ep_b, ep_hk, ep_hn, ep_hs, ep_wk, ep_wn, ep_ws, Int.ofNat_lt, hlt, hm, encL_getD hm, hne, h0, h1]
    have e : hi - lo = (hi - lo - 1) + 1 := by omega
    rw [e, bsK, if_pos hlt, getD_at' hm] at g9003
    by_cases hb : hdB l[(lo + hi) / 2].lab < b
    · rw [if_pos hb] at g9003
      refine ⟨((lo + hi) / 2 + 1, hi), ⟨by dsimp only; omega, g2, ?_⟩, by dsimp only; omega, ?_⟩
      · rw [← g9003]; exact bsK_fuel l b _ _ _ _ (by omega) (by omega)
      · rw [wrap_succ (by omega), if_pos (show hdB l[(lo + hi) / 2].lab - b < 0 by omega)]
    · rw [if_neg hb] at g9003
      refine ⟨(lo, (lo + hi) / 2), ⟨by dsimp only; omega, by dsimp only; omega, ?_⟩, by dsimp only; omega, ?_⟩
      · rw [← g9003]; exact bsK_fuel l b _ _ _ _ (by omega) (by omega)
      · rw [if_neg (show ¬ hdB l[(lo + hi) / 2].lab - b < 0 by omega)]
  · obtain rfl : lo = hi := by omega
    right
    rw [bsK_end l b _ (by omega)] at g9003
    refine ⟨x123_0x0 nl tt (encL l) b l.length lo lo, by simp, ?_, by simp only [nd_ok, nd_lab, nd_rows, nd_kids, encL_length, isL_enc, decL_enc, wrap_hd, hd_pos, ld_br, ld_chk', ld_leaf, fd_br, fd_chk', fd_leaf, decide_true, decide_eq_true_eq, if_true, Int.toNat_natCast, Int.natCast_nonneg, Int.ofNat_lt, Int.ofNat_le, Bool.false_eq_true, if_false, bne_iff_ne, beq_iff_eq, ne_eq, not_true_eq_false, not_false_eq_true, Bool.not_eq_true', decide_eq_false_iff_not, reduceCtorEq, rows_length, pcs_length, er_ok, er_ok', ep_ok, ep_ok', dr_er, dp_ep, isRows_rows, isPcs_pcs, toRows_rows, toPcs_pcs, rows_take, rows_drop, pcs_take, pcs_drop, rows_append, pcs_append, ints_length, isInts_ints, toInts_ints, ei_i, ei_ok, mk_headD, ints_take, ints_drop, ints_append, ints_snoc, ints_snoc', List.take_length, Nat.zero_add, Nat.le_refl, er_a, er_b, er_k, er_n, er_s, er_v, ep_a, ep_b, ep_hk, ep_hn, ep_hs, ep_wk, ep_wn, ep_ws, Int.lt_irrefl]⟩
    rw [k123_0x0]
    simp only [nd_ok, nd_lab, nd_rows, nd_kids, encL_length, isL_enc, decL_enc, wrap_hd, hd_pos, ld_br, ld_chk', ld_leaf, fd_br, fd_chk', fd_leaf, decide_true, decide_eq_true_eq, if_true, Int.toNat_natCast, Int.natCast_nonneg, Int.ofNat_lt, Int.ofNat_le, Bool.false_eq_true, if_false, bne_iff_ne, beq_iff_eq, ne_eq, not_true_eq_false, not_false_eq_true, Bool.not_eq_true', decide_eq_false_iff_not, reduceCtorEq, rows_length, pcs_length, er_ok, er_ok', ep_ok, ep_ok', dr_er, dp_ep, isRows_rows, isPcs_pcs, toRows_rows, toPcs_pcs, rows_take, rows_drop, pcs_take, pcs_drop, rows_append, pcs_append, ints_length, isInts_ints, toInts_ints, ei_i, ei_ok, mk_headD, ints_take, ints_drop, ints_append, ints_snoc, ints_snoc', List.take_length, Nat.zero_add, Nat.le_refl, er_a, er_b, er_k, er_n, er_s, er_v, ep_a, ep_b, ep_hk, ep_hn, ep_hs, ep_wk, ep_wn, ep_ws, Int.ofNat_lt, g9003, hitK]
    by_cases hr : posK l b < l.length
    · have hne := labs_mem hl hr
      have e : (hdB l[posK l b].lab - b == 0) = decide (hdB l[posK l b].lab = b) := by
        rw [Bool.eq_iff_iff]; simp; omega
      simp only [hr, if_true, encL_getD hr, nd_ok, nd_lab, nd_rows, nd_kids, encL_length, isL_enc, decL_enc, wrap_hd, hd_pos, ld_br, ld_chk', ld_leaf, fd_br, fd_chk', fd_leaf, decide_true, decide_eq_true_eq, if_true, Int.toNat_natCast, Int.natCast_nonneg, Int.ofNat_lt, Int.ofNat_le, Bool.false_eq_true, if_false, bne_iff_ne, beq_iff_eq, ne_eq, not_true_eq_false, not_false_eq_true, Bool.not_eq_true', decide_eq_false_iff_not, reduceCtorEq, rows_length, pcs_length, er_ok, er_ok', ep_ok, ep_ok', dr_er, dp_ep, isRows_rows, isPcs_pcs, toRows_rows, toPcs_pcs, rows_take, rows_drop, pcs_take, pcs_drop, rows_append, pcs_append, ints_length, isInts_ints, toInts_ints, ei_i, ei_ok, mk_headD, ints_take, ints_drop, ints_append, ints_snoc, ints_snoc', List.take_length, Nat.zero_add, Nat.le_refl, er_a, er_b, er_k, er_n, er_s, er_v, ep_a, ep_b, ep_hk, ep_hn, ep_hs, ep_wk, ep_wn, ep_ws, hne, h0, h1, e, getD_at' hr, Bool.true_and]
    · simp only [hr, if_false, decide_false, Bool.false_and]
theorem s123_ok : CSpecOk E 123 s123 := by
  intro a h cs vals h' he hc
  unfold s123 at he
  split at he <;> simp only [Option.some.injEq, Prod.mk.injEq, reduceCtorEq] at he
  rename_i nl tt xs b
  obtain ⟨rfl, rfl, rfl⟩ := he
  simp only [allT, Bool.and_true, Bool.and_eq_true, decide_eq_true_eq] at hc
  obtain ⟨h1, h2, h3, h4, h5⟩ := hc
  obtain ⟨l, rfl⟩ := isL_ex h1
  simp only [decL_enc, encL_length] at *
  exact f123 l nl tt b h2 h3 h4 h5
theorem f66 (l : List Nd) (nl : OBo) (tt : Bool) (b : Int) (hl : labsOk l = true) (h0 : 0 ≤ b) (h1 : b ≤ 255) (hlen : l.length < 4294967296) : call E 66 [.c (.sl 3 nl tt (encL l)), .c (.int .u8 b)] [] = some ([V.i (posK l b), V.b (hitK l b)], []) := by
  refine call_of (E := E) (sh := sh) (ct := ctOf [(123, s123)]) (na := 2) (m := 0) (ctOf_cons s123_ok ctOf_nil) rfl rfl rfl rfl rfl rfl ?_
  rw [t66]
  simp only [nd_ok, nd_lab, nd_rows, nd_kids, encL_length, isL_enc, decL_enc, wrap_hd, hd_pos, ld_br, ld_chk', ld_leaf, fd_br, fd_chk', fd_leaf, decide_true, decide_eq_true_eq, if_true, Int.toNat_natCast, Int.natCast_nonneg, Int.ofNat_lt, Int.ofNat_le, Bool.false_eq_true, if_false, bne_iff_ne, beq_iff_eq, ne_eq, not_true_eq_false, not_false_eq_true, Bool.not_eq_true', decide_eq_false_iff_not, reduceCtorEq, rows_length, pcs_length, er_ok, er_ok', ep_ok, ep_ok', dr_er, dp_ep, isRows_rows, isPcs_pcs, toRows_rows, toPcs_pcs, rows_take, rows_drop, pcs_take, pcs_drop, rows_append, pcs_append, ints_length, isInts_ints, toInts_ints, ei_i, ei_ok, mk_headD, ints_take, ints_drop, ints_append, ints_snoc, ints_snoc', List.take_length, Nat.zero_add, Nat.le_refl, er_a, er_b, er_k, er_n, er_s, er_v, ep_a, ep_b, ep_hk, ep_hn, ep_hs, ep_wk, ep_wn, ep_ws, hl, h0, h1, hlen]
def s68 : CSpec := fun a h => match a, h with
  | [.c (.sl 5 nl tt xs)], [] => some ([decide (xs.length < 4294967296), decide (nl ≠ some true ∨ xs = [])], [.c (.sl 5 none false xs)], [])
  | _, _ => none
theorem s68_ok : CSpecOk E 68 s68 := by
  intro a h cs vals h' he hc
  unfold s68 at he
  split at he <;> simp only [Option.some.injEq, Prod.mk.injEq, reduceCtorEq] at he
  rename_i nl tt xs
  obtain ⟨rfl, rfl, rfl⟩ := he
  simp only [allT, Bool.and_true, Bool.and_eq_true, decide_eq_true_eq] at hc
  obtain ⟨hc, hn⟩ := hc
  have some_false : ∀ tt, call E 68 [.c (.sl 5 (some false) tt xs)] [] = some ([.c (.sl 5 none false xs)], []) := fun tt => by
    refine call_of (E := E) (sh := sh) (ct := ctOf []) (na := 1) (m := 0) ctOf_nil rfl rfl rfl rfl rfl rfl ?_
    rw [t68]
    simp [fd_br, fd_chk', fd_leaf, hc]
  match nl, xs, hc, hn, some_false with
  | some false, xs, hc, hn, sf => exact sf tt
  | some true, xs, hc, hn, sf =>
    obtain rfl : xs = [] := by simpa using hn
    refine call_of (E := E) (sh := sh) (ct := ctOf []) (na := 1) (m := 0) ctOf_nil rfl rfl rfl rfl rfl rfl ?_
    rw [t68n]; rfl
  | none, [], hc, hn, sf =>
    refine call_split' (E := E) (a1 := [.c (.sl 5 (some true) true [])]) (a2 := [.c (.sl 5 (some false) tt [])]) rfl rfl rfl rfl rfl ?_ (sf tt) rfl
    refine call_of (E := E) (sh := sh) (ct := ctOf []) (na := 1) (m := 0) ctOf_nil rfl rfl rfl rfl rfl rfl ?_
    rw [t68n]; rfl
  | none, x :: r, hc, hn, sf =>
    refine call_of (E := E) (sh := sh) (ct := ctOf []) (na := 1) (m := 0) ctOf_nil rfl rfl rfl rfl rfl rfl ?_
    rw [t140c]
    simp only [List.length_cons] at hc
    simp [fd_br, fd_chk', fd_leaf, hc]
theorem nil_len {α : Type} (l : List α) : ((l.length : Int) = 0) = (l = []) := by
  cases l <;> simp; omega
theorem okL_cons (t : Nd) (r : List Nd) (n : Nat) (f : Int) : okL (t :: r) n f = (okT t n && decide (f < hdB t.lab) && okL r n (hdB t.lab)) := by rw [okL]
theorem f69 (d : Nat) (ih : CSpecOk E 69 (s69 d)) (l : List Nd) (nl : OBo) (tt : Bool) (n : Int) (hd : depL l < d + 1) (h0 : 0 ≤ n) (h1 : n < 1000000) : call E 69 [.c (.sl 3 nl tt (encL l)), V.i n] [] = some ([V.b (okL l n.toNat (-1))], []) := by
  have hct : (ctOf [(64, s64), (69, s69 d)]).ok E := ctOf_cons s64_ok (ctOf_cons ih ctOf_nil)
  refine call_of (E := E) (sh := sh) (ct := ctOf [(64, s64), (69, s69 d)]) (na := 2) (m := 0) hct rfl rfl rfl rfl rfl rfl ?_
  show (p69 d).fd ((p69 d).ft _ _) = _
  rw [t69, encL_length]
  refine fd_post hct (by kernel_rfl) rfl (list_post (p := p69 d) hct (b := b69_0) l.length (fun k (f : Int) => s69_0 nl tt (encL l) n f l.length k) (fun k f => okL (l.drop k) n.toNat f = okL l n.toNat (-1) ∧ (k : Int) ≤ f + 1 ∧ f ≤ 255) _ ?_ ?_ 0 (Nat.zero_le _) (-1) ⟨rfl, by simp, by omega⟩)
  · rintro k f hk ⟨hi, hf, hf2⟩
    rw [List.drop_eq_getElem_cons hk, okL_cons, okT_eq] at hi
    have hkid : depL l[k].kids < d := by have := depL_kid (List.getElem_mem hk); omega
    have ex0 : okL l n.toNat (-1) = false → (p69 d).fd ((p69 d).fkx 0 (x69_0x0 l[k].lab none (rows l[k].rows) (encL l[k].kids))) = some (.out [V.b (okL l n.toNat (-1))] []) := fun h => by rw [k69_0x0, fd_leaf, h]
    have hh := hdB_lt l[k].lab
    rw [t69_0]
    simp only [nd_ok, nd_lab, nd_rows, nd_kids, encL_length, isL_enc, decL_enc, wrap_hd, hd_pos, ld_br, ld_chk', ld_leaf, fd_br, fd_chk', fd_leaf, decide_true, decide_eq_true_eq, if_true, Int.toNat_natCast, Int.natCast_nonneg, Int.ofNat_lt, Int.ofNat_le, Bool.false_eq_true, if_false, bne_iff_ne, beq_iff_eq, ne_eq, not_true_eq_false, not_false_eq_true, Bool.not_eq_true', decide_eq_false_iff_not, reduceCtorEq, rows_length, pcs_length, er_ok, er_ok', ep_ok, ep_ok', dr_er, dp_ep, isRows_rows, isPcs_pcs, toRows_rows, toPcs_pcs, rows_take, rows_drop, pcs_take, pcs_drop, rows_append, pcs_append, ints_length, isInts_ints, toInts_ints, ei_i, ei_ok, mk_headD, ints_take, ints_drop, ints_append, ints_snoc, ints_snoc', List.take_length, Nat.zero_add, Nat.le_refl, er_a, er_b, er_k, er_n, er_s, er_v, ep_a, ep_b, ep_hk, ep_hn, ep_hs, ep_wk, ep_wn, ep_ws, hk, encL_getD hk, wrap_succ (show k < 9223372036854775807 by omega), rows_length, checkR_ne, isRows_rows, toRows_rows, nil_len]
    by_cases c1 : l[k].lab = []
    · exact .inr ⟨x69_0x0 l[k].lab none (rows l[k].rows) (encL l[k].kids), by simp, ex0 (by rw [← hi]; simp [c1]), by rw [if_pos c1]⟩
    rw [if_neg c1]
    by_cases c2 : n < l[k].lab.length
    · exact .inr ⟨x69_0x0 l[k].lab none (rows l[k].rows) (encL l[k].kids), by simp, ex0 (by rw [← hi]; simp [show ¬ l[k].lab.length ≤ n.toNat by omega]), by rw [if_pos c2]⟩
    rw [if_neg c2, if_pos c1]
    by_cases c3 : hdB l[k].lab ≤ f
    · exact .inr ⟨x69_0x0 l[k].lab none (rows l[k].rows) (encL l[k].kids), by simp, ex0 (by rw [← hi]; simp [show ¬ f < hdB l[k].lab by omega]), by rw [if_pos c3]⟩
    rw [if_neg c3]
    by_cases c4 : right l[k].rows = false
    · exact .inr ⟨x69_0x0 l[k].lab none (rows l[k].rows) (encL l[k].kids), by simp, ex0 (by rw [← hi]; simp [c4]), by rw [if_pos c4]⟩
    rw [if_neg c4]
    rw [Bool.not_eq_false] at c4
    have w1 : IntKind.wrap .i64 (n - (l[k].lab.length : Int)) = ((n.toNat - l[k].lab.length : Nat) : Int) := by rw [wrap_same (by omega) (by omega)]; omega
    have c2' : l[k].lab.length ≤ n.toNat := by omega
    have c3' : f < hdB l[k].lab := by omega
    have w2 : ((n.toNat - l[k].lab.length : Nat) : Int) < 1000000 := by omega
    simp only [w1, hkid, w2, Int.natCast_nonneg, Int.toNat_natCast, if_true, c1, ne_eq, not_false_eq_true]
    have rest : (l[k].rows ≠ [] ∨ 2 ≤ l[k].kids.length) → ((∃ s', ((okL (l.drop (k + 1)) n.toNat s' = okL l n.toNat (-1)) ∧ ((k + 1 : Nat) : Int) ≤ s' + 1 ∧ s' ≤ 255) ∧ (if okL l[k].kids (n.toNat - l[k].lab.length) (-1) = false then some (R.x (x69_0x0 l[k].lab none (rows l[k].rows) (encL l[k].kids))) else some (R.s (s69_0 nl tt (encL l) n (hdB l[k].lab) l.length ((k + 1 : Nat) : Int)))) = some (R.s (s69_0 nl tt (encL l) n s' l.length ((k + 1 : Nat) : Int)))) ∨ (∃ x : Ex × Fr × Hp, x.1 ≠ .nrm ∧ (p69 d).fd ((p69 d).fkx 0 x) = some (.out [V.b (okL l n.toNat (-1))] []) ∧ (if okL l[k].kids (n.toNat - l[k].lab.length) (-1) = false then some (R.x (x69_0x0 l[k].lab none (rows l[k].rows) (encL l[k].kids))) else some (R.s (s69_0 nl tt (encL l) n (hdB l[k].lab) l.length ((k + 1 : Nat) : Int)))) = some (R.x x))) := by
      intro c5
      have e5 : (decide (l[k].rows ≠ []) || decide (2 ≤ l[k].kids.length)) = true := by simpa using c5
      by_cases c6 : okL l[k].kids (n.toNat - l[k].lab.length) (-1) = false
      · exact .inr ⟨x69_0x0 l[k].lab none (rows l[k].rows) (encL l[k].kids), by simp, ex0 (by rw [← hi, c6]; simp), by rw [if_pos c6]⟩
      · rw [Bool.not_eq_false] at c6
        refine .inl ⟨hdB l[k].lab, ⟨?_, by omega, hh.2⟩, by rw [if_neg (by simp [c6])]⟩
        rw [← hi, c6, c4, e5]; simp [c1, c2', c3']
    by_cases c5 : l[k].rows = []
    · rw [if_pos c5]
      by_cases c6 : (l[k].kids.length : Int) < 2
      · exact .inr ⟨x69_0x0 l[k].lab none (rows l[k].rows) (encL l[k].kids), by simp, ex0 (by rw [← hi]; simp [c5, show ¬ 2 ≤ l[k].kids.length by omega]), by rw [if_pos c6]⟩
      · rw [if_neg c6]
        exact rest (.inr (by omega))
    · rw [if_neg c5]
      exact rest (.inl c5)
  · rintro f ⟨hi, hf, hf2⟩
    rw [List.drop_length, okL] at hi
    rw [t69_0]
    exact ⟨x69_0x1 nl tt (encL l) n f l.length l.length, by simp, by rw [k69_0x1, fd_leaf, ← hi], by simp only [nd_ok, nd_lab, nd_rows, nd_kids, encL_length, isL_enc, decL_enc, wrap_hd, hd_pos, ld_br, ld_chk', ld_leaf, fd_br, fd_chk', fd_leaf, decide_true, decide_eq_true_eq, if_true, Int.toNat_natCast, Int.natCast_nonneg, Int.ofNat_lt, Int.ofNat_le, Bool.false_eq_true, if_false, bne_iff_ne, beq_iff_eq, ne_eq, not_true_eq_false, not_false_eq_true, Bool.not_eq_true', decide_eq_false_iff_not, reduceCtorEq, rows_length, pcs_length, er_ok, er_ok', ep_ok, ep_ok', dr_er, dp_ep, isRows_rows, isPcs_pcs, toRows_rows, toPcs_pcs, rows_take, rows_drop, pcs_take, pcs_drop, rows_append, pcs_append, ints_length, isInts_ints, toInts_ints, ei_i, ei_ok, mk_headD, ints_take, ints_drop, ints_append, ints_snoc, ints_snoc', List.take_length, Nat.zero_add, Nat.le_refl, er_a, er_b, er_k, er_n, er_s, er_v, ep_a, ep_b, ep_hk, ep_hn, ep_hs, ep_wk, ep_wn, ep_ws, Int.lt_irrefl]⟩
theorem s69_ok : ∀ d, CSpecOk E 69 (s69 d)
  | 0 => by
    intro a h cs vals h' he hc
    unfold s69 at he
    split at he <;> simp only [Option.some.injEq, Prod.mk.injEq, reduceCtorEq] at he
    obtain ⟨rfl, rfl, rfl⟩ := he
    simp [allT] at hc
  | d + 1 => by
    intro a h cs vals h' he hc
    unfold s69 at he
    split at he <;> simp only [Option.some.injEq, Prod.mk.injEq, reduceCtorEq] at he
    rename_i nl tt xs n
    obtain ⟨rfl, rfl, rfl⟩ := he
    simp only [allT, Bool.and_true, Bool.and_eq_true, decide_eq_true_eq] at hc
    obtain ⟨h1, h2, h3, h4⟩ := hc
    obtain ⟨l, rfl⟩ := isL_ex h1
    rw [decL_enc] at *
    exact f69 d (s69_ok d) l nl tt n h2 h3 h4
end Go.Proofs.YtgaabjmbnomimaaDoor
namespace Go.Proofs.YtgaabjmbnomimaaDoor
open Go Go.Ev
variable (dd : Nat)
noncomputable abbrev p28 : Par := par E sh (ctOf [(69, s69 dd)]) 28 1 0
theorem t28 (s : Bys) (rn : OBo) (rt : Bool) (xs : LLC) (kn : OBo) (kt : Bool) (ys : LLC) : (p28 dd).ft ([V.agg [V.c (C.str s), V.c (C.sl 5 rn rt xs), V.c (C.sl 3 kn kt ys)]]) ([]) = (Tr.br (!s == []) (Tr.leaf (R.out [V.c (C.int IntKind.i64 2)] [])) (Tr.br (decide (0 < (↑xs.length : Int))) (Tr.leaf (R.out [V.c (C.int IntKind.i64 2)] [])) (Tr.chk (isL ys) (Tr.chk (decide (depL (decL ys) < dd)) (Tr.chk true (Tr.chk true (Tr.br (!okL (decL ys) (Int.toNat 24) (-1)) (Tr.leaf (R.out [V.c (C.int IntKind.i64 2)] [])) (Tr.leaf (R.out [V.c (C.int IntKind.i64 0)] []))))))))) := by kernel_rfl
def checkT (t : Nd) : Int := if okR t = true then 0 else 2
def s28 : CSpec := fun a h => match a, h with
  | [.agg [.c (.str s), .c (.sl 5 rn rt xs), .c (.sl 3 kn kt ys)]], [] => some ([isRows xs, isL ys], [V.i (checkT (.node s (toRows xs) (decL ys)))], [])
  | _, _ => none
def s66 : CSpec := fun a h => match a, h with
  | [.c (.sl 3 nl tt xs), .c (.int .u8 b)], [] => some ([isL xs, labsOk (decL xs), decide (0 ≤ b), decide (b ≤ 255), decide (xs.length < 4294967296)], [V.i (posK (decL xs) b), V.b (hitK (decL xs) b)], [])
  | _, _ => none
noncomputable abbrev p27 : Par := par E sh (ctOf [(28, s28), (66, s66), (67, s125), (68, s68)]) 27 2 0
abbrev s27_0 (s : Bys) (rn : OBo) (rt : Bool) (xs : LLC) (kn : OBo) (kt : Bool) (ys : LLC) (q : Bys) : Fr × Hp := ([(1, V.c (C.str q)), (2, V.ptr 0 0 0 0)], [O.box [V.c (C.str s), V.c (C.sl 5 rn rt xs), V.c (C.sl 3 kn kt ys)]])
noncomputable abbrev b27_0 : Code := loopAt (codeOf E (27)) 0
abbrev x27_0x0 (s : Bys) (rn : OBo) (rt : Bool) (xs : LLC) (kn : OBo) (kt : Bool) (ys : LLC) : Ex × Fr × Hp := (Ex.ret, [(4, V.c (C.sl 5 (some true) true []))], [O.box [V.c (C.str s), V.c (C.sl 5 rn rt xs), V.c (C.sl 3 kn kt ys)]])
abbrev x27_0x1 (s : Bys) (rn : OBo) (rt : Bool) (xs : LLC) (kn : OBo) (kt : Bool) (ys : LLC) (q : Bys) : Ex × Fr × Hp := (Ex.exit 0, [(1, V.c (C.str q)), (2, V.ptr 0 0 0 0), (11, V.c (C.bool false))], [O.box [V.c (C.str s), V.c (C.sl 5 rn rt xs), V.c (C.sl 3 kn kt ys)]])
theorem t27_0 (s : Bys) (rn : OBo) (rt : Bool) (xs : LLC) (kn : OBo) (kt : Bool) (ys : LLC) (q : Bys) : p27.lts b27_0 (s27_0 s rn rt xs kn kt ys q) = (Tr.br (!q == []) (Tr.chk true (Tr.chk (decide (Int.toNat 0 < q.length)) (Tr.chk (isL ys) (Tr.chk (labsOk (decL ys)) (Tr.chk true (Tr.chk (decide ((↑(q.getD (Int.toNat 0) 0).toNat : Int) ≤ 255)) (Tr.chk (decide (ys.length < 4294967296)) (Tr.br (!hitK (decL ys) (↑(q.getD (Int.toNat 0) 0).toNat : Int)) (Tr.leaf (R.x (x27_0x0 s rn rt xs kn kt ys))) (Tr.chk true (Tr.chk true (Tr.chk (decide ((↑(posK (decL ys) (↑(q.getD (Int.toNat 0) 0).toNat : Int)) : Int).toNat < ys.length)) (Tr.chk (shOk [Sk.str, Sk.sl 5, Sk.sl 3] (ys.getD (↑(posK (decL ys) (↑(q.getD (Int.toNat 0) 0).toNat : Int)) : Int).toNat [])) (Tr.br (!begins q ((ys.getD (↑(posK (decL ys) (↑(q.getD (Int.toNat 0) 0).toNat : Int)) : Int).toNat []).headD C.pnil).st) (Tr.leaf (R.x (x27_0x0 s rn rt xs kn kt ys))) (Tr.chk true (Tr.chk true (Tr.chk (decide ((↑(posK (decL ys) (↑(q.getD (Int.toNat 0) 0).toNat : Int)) : Int).toNat < ys.length)) (Tr.chk (shOk [Sk.str, Sk.sl 5, Sk.sl 3] (ys.getD (↑(posK (decL ys) (↑(q.getD (Int.toNat 0) 0).toNat : Int)) : Int).toNat [])) (Tr.chk true (Tr.chk (decide ((↑((ys.getD (↑(posK (decL ys) (↑(q.getD (Int.toNat 0) 0).toNat : Int)) : Int).toNat []).headD C.pnil).st.length : Int).toNat ≤ q.length)) (Tr.chk (decide (q.length ≤ q.length)) (Tr.leaf (R.s (s27_0 (((ys.getD (↑(posK (decL ys) (↑(q.getD (Int.toNat 0) 0).toNat : Int)) : Int).toNat []).headD C.pnil).st) (none) false (((ys.getD (↑(posK (decL ys) (↑(q.getD (Int.toNat 0) 0).toNat : Int)) : Int).toNat []).tail.headD C.pnil).xs) (none) false (((ys.getD (↑(posK (decL ys) (↑(q.getD (Int.toNat 0) 0).toNat : Int)) : Int).toNat []).tail.tail.headD C.pnil).xs) (List.drop (↑((ys.getD (↑(posK (decL ys) (↑(q.getD (Int.toNat 0) 0).toNat : Int)) : Int).toNat []).headD C.pnil).st.length : Int).toNat (List.take q.length q))))))))))))))))))))))))) (Tr.leaf (R.x (x27_0x1 s rn rt xs kn kt ys q)))) := by kernel_rfl
theorem k27_0x0 (s : Bys) (rn : OBo) (rt : Bool) (xs : LLC) (kn : OBo) (kt : Bool) (ys : LLC) : p27.fkx 0 (x27_0x0 s rn rt xs kn kt ys) = (Tr.leaf (R.out [V.c (C.sl 5 none false [])] [])) := by kernel_rfl
theorem k27_0x1 (s : Bys) (rn : OBo) (rt : Bool) (xs : LLC) (kn : OBo) (kt : Bool) (ys : LLC) (q : Bys) : p27.fkx 0 (x27_0x1 s rn rt xs kn kt ys q) = (Tr.chk (decide (xs.length < 4294967296)) (Tr.chk (decide (rn ≠ some true ∨ xs = [])) (Tr.leaf (R.out [V.c (C.sl 5 none false xs)] [])))) := by kernel_rfl
theorem t27 (s : Bys) (rn : OBo) (rt : Bool) (xs : LLC) (kn : OBo) (kt : Bool) (ys : LLC) (q : Bys) : p27.ft ([V.agg [V.c (C.str s), V.c (C.sl 5 rn rt xs), V.c (C.sl 3 kn kt ys)], V.c (C.str q)]) ([]) = (Tr.chk (isRows xs) (Tr.chk (isL ys) (Tr.br (checkT (Nd.node s (toRows xs) (decL ys)) != 0) (Tr.leaf (R.out [V.c (C.sl 5 none false [])] [])) (Tr.ls 0 (s27_0 s rn rt xs kn kt ys q))))) := by kernel_rfl
def ee (e : Ent) : List C := [.str e.1, .sl 5 none false (rows e.2)]
def ents (l : List Ent) : List (List C) := l.map ee
def pre (a : Bys) (l : List Ent) : List Ent := l.map fun e => (a ++ e.1, e.2)
def shortR (l : List Row) : Bool := decide (l.length ≤ 70) && l.all fun r => decide (r.v.s.length ≤ 100)
mutual
def lensT : Nd → Bool
  | .node lab rs kids => decide (lab.length ≤ 9223372036854775807) && decide (rs.length ≤ 9223372036854775807) && decide (kids.length ≤ 9223372036854775807) && lensL kids
def lensL : List Nd → Bool
  | [] => true
  | t :: r => lensT t && lensL r
end
mutual
def leftT : Nd → Int → Int → Int
  | .node lab rs kids, n, deep => if deep < 1 ∨ n - 1 - ((lab.length / 50 : Nat) : Int) < 1 ∨ shortR rs = false then 0 else leftL kids (n - 1 - ((lab.length / 50 : Nat) : Int)) (deep - 1)
def leftL : List Nd → Int → Int → Int
  | [], n, _ => n
  | t :: r, n, deep => if 0 < n then leftL r (leftT t n deep) deep else n
end
end Go.Proofs.YtgaabjmbnomimaaDoor
namespace Go.Proofs.YtgaabjmbnomimaaDoor
open Go Go.Ev
theorem okR_node (s : Bys) (rs : List Row) (ks : List Nd) : okR (.node s rs ks) = (decide (s = []) && decide (rs = []) && okL ks 24 (-1)) := rfl
theorem f28 (s : Bys) (rn : OBo) (rt : Bool) (rs : List Row) (kn : OBo) (kt : Bool) (ks : List Nd) : call E 28 [.agg [.c (.str s), .c (.sl 5 rn rt (rows rs)), .c (.sl 3 kn kt (encL ks))]] [] = some ([V.i (checkT (.node s rs ks))], []) := by
  have hct : (ctOf [(69, s69 (depL ks + 1))]).ok E := ctOf_cons (s69_ok _) ctOf_nil
  refine call_of (E := E) (sh := sh) (ct := ctOf [(69, s69 (depL ks + 1))]) (na := 1) (m := 0) hct rfl rfl rfl rfl rfl rfl ?_
  show (p28 (depL ks + 1)).fd ((p28 (depL ks + 1)).ft _ _) = _
  rw [t28]
  simp only [nd_ok, nd_lab, nd_rows, nd_kids, encL_length, isL_enc, decL_enc, wrap_hd, hd_pos, ld_br, ld_chk', ld_leaf, fd_br, fd_chk', fd_leaf, decide_true, decide_eq_true_eq, if_true, Int.toNat_natCast, Int.natCast_nonneg, Int.ofNat_lt, Int.ofNat_le, Bool.false_eq_true, if_false, bne_iff_ne, beq_iff_eq, ne_eq, not_true_eq_false, not_false_eq_true, Bool.not_eq_true', decide_eq_false_iff_not, reduceCtorEq, rows_length, pcs_length, er_ok, er_ok', ep_ok, ep_ok', dr_er, dp_ep, isRows_rows, isPcs_pcs, toRows_rows, toPcs_pcs, rows_take, rows_drop, pcs_take, pcs_drop, rows_append, pcs_append, ints_length, isInts_ints, toInts_ints, ei_i, ei_ok, mk_headD, ints_take, ints_drop, ints_append, ints_snoc, ints_snoc', List.take_length, Nat.zero_add, Nat.le_refl, er_a, er_b, er_k, er_n, er_s, er_v, ep_a, ep_b, ep_hk, ep_hn, ep_hs, ep_wk, ep_wn, ep_ws, rows_length, show depL ks < depL ks + 1 by omega, checkT, okR_node]
  by_cases c1 : s = []
  · by_cases c2 : rs = []
    · have e24 : Int.toNat 24 = 24 := rfl
      simp only [c1, c2, List.length_nil, Int.natCast_zero, Int.lt_irrefl, if_false, not_true_eq_false, decide_true, Bool.true_and, e24]
      cases okL ks 24 (-1) <;> simp
    · have h : (0 : Int) < rs.length := by have := List.length_pos_iff.2 c2; omega
      simp only [c1, c2, h, not_true_eq_false, if_false, if_true, decide_false, Bool.and_false, Bool.false_and, Bool.false_eq_true]
      simp
  · simp [c1]
theorem s28_ok : CSpecOk E 28 s28 := by
  intro a h cs vals h' he hc
  unfold s28 at he
  split at he <;> simp only [Option.some.injEq, Prod.mk.injEq, reduceCtorEq] at he
  rename_i s rn rt xs kn kt ys
  obtain ⟨rfl, rfl, rfl⟩ := he
  simp only [allT, Bool.and_true, Bool.and_eq_true, decide_eq_true_eq] at hc
  obtain ⟨h1, h2⟩ := hc
  obtain ⟨rs, rfl⟩ := rows_ex h1
  obtain ⟨ks, rfl⟩ := isL_ex h2
  simp only [toRows_rows, decL_enc]
  exact f28 s rn rt rs kn kt ks
theorem s66_ok : CSpecOk E 66 s66 := by
  intro a h cs vals h' he hc
  unfold s66 at he
  split at he <;> simp only [Option.some.injEq, Prod.mk.injEq, reduceCtorEq] at he
  rename_i nl tt xs b
  obtain ⟨rfl, rfl, rfl⟩ := he
  simp only [allT, Bool.and_true, Bool.and_eq_true, decide_eq_true_eq] at hc
  obtain ⟨h1, h2, h3, h4, h5⟩ := hc
  obtain ⟨l, rfl⟩ := isL_ex h1
  simp only [decL_enc, encL_length] at *
  exact f66 l nl tt b h2 h3 h4 h5
theorem right_len4 {l : List Row} (h : right l = true) : l.length ≤ 64 := by
  simp only [right, Bool.and_eq_true, decide_eq_true_eq] at h; exact h.1
theorem okL_labs {l : List Nd} {n : Nat} {f : Int} (h : okL l n f = true) : labsOk l = true :=
  List.all_eq_true.2 fun t ht => by simpa using (okT_lab (okL_mem h t ht).1).1
theorem okT_right {t : Nd} {n : Nat} (h : okT t n = true) : right t.rows = true := by
  rw [okT_eq] at h
  simp only [Bool.and_eq_true] at h
  exact h.1.1.2
theorem getW_eq (t : Nd) (b : UInt8) (p : Bys) (n : Nat) (hk : okL t.kids n (-1) = true) :
    getW (p.length + 1) t (b :: p) = if hitK t.kids (b.toNat : Int) = true then (if begins (b :: p) (t.kids.getD (posK t.kids (b.toNat : Int)) default).lab = true then getW p.length (t.kids.getD (posK t.kids (b.toNat : Int)) default) ((b :: p).drop (t.kids.getD (posK t.kids (b.toNat : Int)) default).lab.length) else []) else [] := by
  rw [getW]
  rw [findK_pos (okL_rise hk).1 (fun t ht => (okT_lab (okL_mem hk t ht).1).1)]
  unfold hitK
  by_cases h1 : posK t.kids (b.toNat : Int) < t.kids.length
  · by_cases h2 : hdB (t.kids.getD (posK t.kids (b.toNat : Int)) default).lab = (b.toNat : Int)
    · rw [dif_pos ⟨h1, h2⟩]
      simp only [h1, h2, decide_true, Bool.and_self, if_true]
      simp only [getD_at' h1]
      by_cases h3 : begins (b :: p) t.kids[posK t.kids (b.toNat : Int)].lab = true
      · rw [if_pos h3, if_pos]
        obtain ⟨s, hs⟩ := begins_iff.1 h3
        exact ⟨s, hs.symm⟩
      · rw [if_neg h3, if_neg]
        rintro ⟨s, hs⟩
        exact h3 (begins_iff.2 ⟨s, hs.symm⟩)
    · rw [dif_neg (fun h => h2 h.2)]
      simp only [h1, h2, decide_true, decide_false, Bool.true_and, Bool.false_eq_true, if_false]
  · rw [dif_neg (fun h => h1 h.1)]
    simp only [h1, decide_false, Bool.false_and, Bool.false_eq_true, if_false]
theorem getW_fuel : ∀ (n m : Nat) (t : Nd) (p : Bys) (k : Nat), okL t.kids k (-1) = true → p.length ≤ n → p.length ≤ m → getW n t p = getW m t p
  | n, m, t, [], k, _, _, _ => by cases n <;> cases m <;> rfl
  | 0, m, t, b :: p, k, _, h, _ => by simp at h
  | n + 1, 0, t, b :: p, k, _, _, h => by simp at h
  | n + 1, m + 1, t, b :: p, k, hk, h1, h2 => by
    simp only [getW]
    cases hf : findK b t.kids with
    | none => rfl
    | some x =>
      have hm : x ∈ t.kids := List.mem_of_find?_eq_some hf
      have hx := okT_lab (okL_mem hk x hm).1
      simp only
      split
      · refine getW_fuel n m x _ _ hx.2.2 ?_ ?_ <;>
        · have := List.length_pos_iff.2 hx.1
          simp only [List.length_drop, List.length_cons] at h1 h2 ⊢; omega
      · rfl
theorem f27 (s : Bys) (rn : OBo) (rt : Bool) (rs : List Row) (kn : OBo) (kt : Bool) (ks : List Nd) (q : Bys) : call E 27 [.agg [.c (.str s), .c (.sl 5 rn rt (rows rs)), .c (.sl 3 kn kt (encL ks))], .c (.str q)] [] = some ([.c (.sl 5 none false (rows (getR (.node s rs ks) q)))], []) := by
  have hct : (ctOf [(28, s28), (66, s66), (67, s125), (68, s68)]).ok E := ctOf_cons s28_ok (ctOf_cons s66_ok (ctOf_cons s125_ok' (ctOf_cons s68_ok ctOf_nil)))
  refine call_of (E := E) (sh := sh) (ct := ctOf [(28, s28), (66, s66), (67, s125), (68, s68)]) (na := 2) (m := 0) hct rfl rfl rfl rfl rfl rfl ?_
  rw [t27]
  simp only [nd_ok, nd_lab, nd_rows, nd_kids, encL_length, isL_enc, decL_enc, wrap_hd, hd_pos, ld_br, ld_chk', ld_leaf, fd_br, fd_chk', fd_leaf, decide_true, decide_eq_true_eq, if_true, Int.toNat_natCast, Int.natCast_nonneg, Int.ofNat_lt, Int.ofNat_le, Bool.false_eq_true, if_false, bne_iff_ne, beq_iff_eq, ne_eq, not_true_eq_false, not_false_eq_true, Bool.not_eq_true', decide_eq_false_iff_not, reduceCtorEq, rows_length, pcs_length, er_ok, er_ok', ep_ok, ep_ok', dr_er, dp_ep, isRows_rows, isPcs_pcs, toRows_rows, toPcs_pcs, rows_take, rows_drop, pcs_take, pcs_drop, rows_append, pcs_append, ints_length, isInts_ints, toInts_ints, ei_i, ei_ok, mk_headD, ints_take, ints_drop, ints_append, ints_snoc, ints_snoc', List.take_length, Nat.zero_add, Nat.le_refl, er_a, er_b, er_k, er_n, er_s, er_v, ep_a, ep_b, ep_hk, ep_hn, ep_hs, ep_wk, ep_wn, ep_ws, checkT]
  by_cases ho : okR (.node s rs ks) = true
  case neg =>
    rw [if_neg ho, if_pos (by decide)]
    unfold getR
    rw [if_neg ho]; rfl
  rw [if_pos ho, if_neg (by decide)]
  have ho' := ho
  rw [okR_node] at ho'
  simp only [Bool.and_eq_true, decide_eq_true_eq] at ho'
  obtain ⟨⟨rfl, rfl⟩, hk⟩ := ho'
  have hg : getR (.node [] [] ks) q = getW q.length (.node [] [] ks) q := by unfold getR; rw [if_pos ho]
  rw [hg]
  refine fd_post hct (by kernel_rfl) rfl (loops_post hct (b := b27_0) (ι := Nd × (Option Bool × Bool × Option Bool × Bool) × List UInt8) (fun i => s27_0 i.1.lab i.2.1.1 i.2.1.2.1 (rows i.1.rows) i.2.1.2.2.1 i.2.1.2.2.2 (encL i.1.kids) i.2.2)
    (fun i => getW i.2.2.length i.1 i.2.2 = getW q.length (.node [] [] ks) q ∧ (∃ n, okL i.1.kids n (-1) = true) ∧ i.1.rows.length < 4294967296 ∧ (i.2.1.1 ≠ some true ∨ i.1.rows = []))
    (fun i => i.2.2.length) _ ?_ (.node [] [] ks, (rn, rt, kn, kt), q) ⟨rfl, ⟨24, hk⟩, by simp [Nd.rows], .inr rfl⟩)
  rintro ⟨t, ⟨rn, rt, kn, kt⟩, p⟩ ⟨h1, ⟨n, hn⟩, h3, h4⟩
  dsimp only at h1 hn h3 h4 ⊢
  rw [t27_0]
  cases p with
  | nil =>
    right
    refine ⟨x27_0x1 t.lab rn rt (rows t.rows) kn kt (encL t.kids) [], by simp, ?_, by simp only [nd_ok, nd_lab, nd_rows, nd_kids, encL_length, isL_enc, decL_enc, wrap_hd, hd_pos, ld_br, ld_chk', ld_leaf, fd_br, fd_chk', fd_leaf, decide_true, decide_eq_true_eq, if_true, Int.toNat_natCast, Int.natCast_nonneg, Int.ofNat_lt, Int.ofNat_le, Bool.false_eq_true, if_false, bne_iff_ne, beq_iff_eq, ne_eq, not_true_eq_false, not_false_eq_true, Bool.not_eq_true', decide_eq_false_iff_not, reduceCtorEq, rows_length, pcs_length, er_ok, er_ok', ep_ok, ep_ok', dr_er, dp_ep, isRows_rows, isPcs_pcs, toRows_rows, toPcs_pcs, rows_take, rows_drop, pcs_take, pcs_drop, rows_append, pcs_append, ints_length, isInts_ints, toInts_ints, ei_i, ei_ok, mk_headD, ints_take, ints_drop, ints_append, ints_snoc, ints_snoc', List.take_length, Nat.zero_add, Nat.le_refl, er_a, er_b, er_k, er_n, er_s, er_v, ep_a, ep_b, ep_hk, ep_hn, ep_hs, ep_wk, ep_wn, ep_ws]; simp⟩
    have e1 : getW 0 t [] = t.rows := rfl
    rw [List.length_nil, e1] at h1
    have h4' : rn ≠ some true ∨ rows t.rows = [] := by
      rcases h4 with h | h
      · exact .inl h
      · right; rw [h]; rfl
    rw [k27_0x1]
    simp only [ld_br, ld_chk', ld_leaf, fd_br, fd_chk', fd_leaf, decide_true, decide_eq_true_eq, if_true, Int.toNat_natCast, Int.natCast_nonneg, Int.ofNat_lt, Int.ofNat_le, Bool.false_eq_true, if_false, bne_iff_ne, beq_iff_eq, ne_eq, not_true_eq_false, not_false_eq_true, Bool.not_eq_true', decide_eq_false_iff_not, reduceCtorEq, rows_length, pcs_length, er_ok, er_ok', ep_ok, ep_ok', dr_er, dp_ep, isRows_rows, isPcs_pcs, toRows_rows, toPcs_pcs, rows_take, rows_drop, pcs_take, pcs_drop, rows_append, pcs_append, ints_length, isInts_ints, toInts_ints, ei_i, ei_ok, mk_headD, ints_take, ints_drop, ints_append, ints_snoc, ints_snoc', List.take_length, Nat.zero_add, Nat.le_refl, er_a, er_b, er_k, er_n, er_s, er_v, ep_a, ep_b, ep_hk, ep_hn, ep_hs, ep_wk, ep_wn, ep_ws, h3]
    rw [if_pos h4', h1]
  | cons b p =>
    have hb : (((b :: p).getD (Int.toNat 0) 0).toNat : Int) = (b.toNat : Int) := rfl
    have hb2 : (b.toNat : Int) ≤ 255 := by have := b.toNat_lt; omega
    have hlen := okL_len hn (by omega)
    rw [List.length_cons, getW_eq t b p n hn] at h1
    have hne : b :: p ≠ [] := by simp
    have hq : (b :: p == []) = false := rfl
    simp only [nd_ok, nd_lab, nd_rows, nd_kids, encL_length, isL_enc, decL_enc, wrap_hd, hd_pos, ld_br, ld_chk', ld_leaf, fd_br, fd_chk', fd_leaf, decide_true, decide_eq_true_eq, if_true, Int.toNat_natCast, Int.natCast_nonneg, Int.ofNat_lt, Int.ofNat_le, Bool.false_eq_true, if_false, bne_iff_ne, beq_iff_eq, ne_eq, not_true_eq_false, not_false_eq_true, Bool.not_eq_true', decide_eq_false_iff_not, reduceCtorEq, rows_length, pcs_length, er_ok, er_ok', ep_ok, ep_ok', dr_er, dp_ep, isRows_rows, isPcs_pcs, toRows_rows, toPcs_pcs, rows_take, rows_drop, pcs_take, pcs_drop, rows_append, pcs_append, ints_length, isInts_ints, toInts_ints, ei_i, ei_ok, mk_headD, ints_take, ints_drop, ints_append, ints_snoc, ints_snoc', List.take_length, Nat.zero_add, Nat.le_refl, er_a, er_b, er_k, er_n, er_s, er_v, ep_a, ep_b, ep_hk, ep_hn, ep_hs, ep_wk, ep_wn, ep_ws, hq, if_true, hb, hb2, okL_labs hn, hne, show t.kids.length < 4294967296 by omega, Int.natCast_nonneg]
    by_cases g1 : hitK t.kids (b.toNat : Int) = true
    · have hp : posK t.kids (b.toNat : Int) < t.kids.length := by
        unfold hitK at g1
        simp only [Bool.and_eq_true, decide_eq_true_eq] at g1
        exact g1.1
      rw [if_pos g1, getD_at' hp] at h1
      simp only [g1, Bool.true_eq_false, if_false, hp, encL_getD hp, nd_ok, nd_lab, nd_rows, nd_kids, encL_length, isL_enc, decL_enc, wrap_hd, hd_pos, ld_br, ld_chk', ld_leaf, fd_br, fd_chk', fd_leaf, decide_true, decide_eq_true_eq, if_true, Int.toNat_natCast, Int.natCast_nonneg, Int.ofNat_lt, Int.ofNat_le, Bool.false_eq_true, if_false, bne_iff_ne, beq_iff_eq, ne_eq, not_true_eq_false, not_false_eq_true, Bool.not_eq_true', decide_eq_false_iff_not, reduceCtorEq, rows_length, pcs_length, er_ok, er_ok', ep_ok, ep_ok', dr_er, dp_ep, isRows_rows, isPcs_pcs, toRows_rows, toPcs_pcs, rows_take, rows_drop, pcs_take, pcs_drop, rows_append, pcs_append, ints_length, isInts_ints, toInts_ints, ei_i, ei_ok, mk_headD, ints_take, ints_drop, ints_append, ints_snoc, ints_snoc', List.take_length, Nat.zero_add, Nat.le_refl, er_a, er_b, er_k, er_n, er_s, er_v, ep_a, ep_b, ep_hk, ep_hn, ep_hs, ep_wk, ep_wn, ep_ws]
      by_cases g2 : begins (b :: p) t.kids[posK t.kids (b.toNat : Int)].lab = true
      · rw [if_pos g2] at h1
        have hk1 := (okL_mem hn _ (List.getElem_mem hp)).1
        have hx := okT_lab hk1
        have hle : t.kids[posK t.kids (b.toNat : Int)].lab.length ≤ (b :: p).length := by
          obtain ⟨z, hz⟩ := begins_iff.1 g2
          rw [hz]; simp
        have hpos := List.length_pos_iff.2 hx.1
        left
        refine ⟨(t.kids[posK t.kids (b.toNat : Int)], (none, false, none, false), (b :: p).drop t.kids[posK t.kids (b.toNat : Int)].lab.length), ⟨?_, ⟨_, hx.2.2⟩, ?_, .inl (by simp)⟩, ?_, ?_⟩
        · rw [← h1]
          exact getW_fuel _ _ _ _ _ hx.2.2 (Nat.le_refl _) (by simp only [List.length_drop, List.length_cons]; omega)
        · have := right_len4 (okT_right hk1); dsimp only; omega
        · simp only [List.length_drop, List.length_cons]; omega
        · simp only [g2, Bool.true_eq_false, if_false, hle, if_true, List.take_length, Nat.le_refl]
      · rw [if_neg g2] at h1
        rw [Bool.not_eq_true] at g2
        right
        exact ⟨x27_0x0 t.lab rn rt (rows t.rows) kn kt (encL t.kids), by simp, by rw [k27_0x0, fd_leaf, ← h1]; rfl, by simp only [g2, if_true]⟩
    · rw [if_neg g1] at h1
      rw [Bool.not_eq_true] at g1
      right
      exact ⟨x27_0x0 t.lab rn rt (rows t.rows) kn kt (encL t.kids), by simp, by rw [k27_0x0, fd_leaf, ← h1]; rfl, by simp only [g1, if_true]⟩
def s27 : CSpec := fun a h => match a, h with
  | [.agg [.c (.str s), .c (.sl 5 rn rt xs), .c (.sl 3 kn kt ys)], .c (.str q)], [] => some ([isRows xs, isL ys], [.c (.sl 5 none false (rows (getR (.node s (toRows xs) (decL ys)) q)))], [])
  | _, _ => none
theorem s27_ok : CSpecOk E 27 s27 := by
  intro a h cs vals h' he hc
  unfold s27 at he
  split at he <;> simp only [Option.some.injEq, Prod.mk.injEq, reduceCtorEq] at he
  rename_i s rn rt xs kn kt ys q
  obtain ⟨rfl, rfl, rfl⟩ := he
  simp only [allT, Bool.and_true, Bool.and_eq_true, decide_eq_true_eq] at hc
  obtain ⟨h1, h2⟩ := hc
  obtain ⟨rs, rfl⟩ := rows_ex h1
  obtain ⟨ks, rfl⟩ := isL_ex h2
  simp only [toRows_rows, decL_enc]
  exact f27 s rn rt rs kn kt ks q
theorem nd_node (t : Nd) : Nd.node t.lab t.rows t.kids = t := Nd.eta t
end Go.Proofs.YtgaabjmbnomimaaDoor
namespace Go.Proofs.YtgaabjmbnomimaaDoor
open Go Go.Ev
theorem pre_pre (a b : Bys) (l : List Ent) : pre a (pre b l) = pre (a ++ b) l := by simp [pre, Function.comp_def]
theorem pre_app (a : Bys) (l m : List Ent) : pre a (l ++ m) = pre a l ++ pre a m := by simp [pre]
@[simp] theorem pre_length (a : Bys) (l : List Ent) : (pre a l).length = l.length := by simp [pre]
theorem pre_nil (l : List Ent) : pre [] l = l := by simp [pre]
@[simp] theorem ents_length (l : List Ent) : (ents l).length = l.length := by simp [ents]
def ownE (q : Bys) (rs : List Row) : List Ent := if rs = [] then [] else [(q, rs)]
theorem entT_node (q s : Bys) (rs : List Row) (ks : List Nd) : pre q (entT (.node s rs ks)) = ownE (q ++ s) rs ++ pre (q ++ s) (entL ks) := by
  have e : entT (.node s rs ks) = ownE s rs ++ pre s (entL ks) := by rw [entT_eq]; rfl
  rw [e, pre_app, pre_pre]
  congr 1
  unfold ownE
  split <;> rfl
theorem ents_getD {l : List Ent} {i : Nat} (h : i < l.length) : (ents l).getD i [] = ee l[i] := by simp [ents, List.getD_eq_getElem?_getD, h]
theorem ee_p (e : Ent) (d : C) : ((ee e).headD d).st = e.1 := rfl
theorem ee_r (e : Ent) (d : C) : ((ee e).tail.headD d).xs = rows e.2 := rfl
theorem ee_ok (e : Ent) : shOk [.str, .sl 5] (ee e) = true := rfl
theorem leftL_cons (t : Nd) (r : List Nd) (n d : Int) : leftL (t :: r) n d = if 0 < n then leftL r (leftT t n d) d else n := by rw [leftL]
mutual
theorem leftT_le : ∀ (t : Nd) (n d : Int), 0 ≤ n → 0 ≤ leftT t n d ∧ leftT t n d ≤ n
  | .node lab rs ks, n, d, h => by
    rw [leftT]
    split
    · omega
    · have := leftL_le ks (n - 1 - ((lab.length / 50 : Nat) : Int)) (d - 1) (by omega)
      omega
theorem leftL_le : ∀ (l : List Nd) (n d : Int), 0 ≤ n → 0 ≤ leftL l n d ∧ leftL l n d ≤ n
  | [], n, d, h => by rw [leftL]; omega
  | t :: r, n, d, h => by
    rw [leftL]
    split
    · have h1 := leftT_le t n d h
      have h2 := leftL_le r (leftT t n d) d h1.1
      omega
    · omega
end
theorem lensL_mem : ∀ {l : List Nd} {t : Nd}, lensL l = true → t ∈ l → lensT t = true
  | x :: r, t, h, ht => by
    rw [lensL, Bool.and_eq_true] at h
    rcases List.mem_cons.1 ht with rfl | ht
    · exact h.1
    · exact lensL_mem h.2 ht
end Go.Proofs.YtgaabjmbnomimaaDoor
namespace Go.Proofs.YtgaabjmbnomimaaDoor
open Go Go.Ev
theorem Nd.lab_node (a : Bys) (b : List Row) (c : List Nd) : (Nd.node a b c).lab = a := rfl
theorem Nd.rows_node (a : Bys) (b : List Row) (c : List Nd) : (Nd.node a b c).rows = b := rfl
theorem Nd.kids_node (a : Bys) (b : List Row) (c : List Nd) : (Nd.node a b c).kids = c := rfl
theorem bl_irrefl : ∀ x : List UInt8, Op.bytesLess x x = false
  | [] => rfl
  | a :: x => by simp [Op.bytesLess, bl_irrefl x]
theorem bl_trans : ∀ {x y z : List UInt8}, Op.bytesLess x y = true → Op.bytesLess y z = true → Op.bytesLess x z = true
  | [], [], _, h, _ => by simp [Op.bytesLess] at h
  | [], _ :: _, [], _, h => by simp [Op.bytesLess] at h
  | [], _ :: _, _ :: _, _, _ => rfl
  | _ :: _, [], _, h, _ => by simp [Op.bytesLess] at h
  | _ :: _, _ :: _, [], _, h => by simp [Op.bytesLess] at h
  | a :: x, b :: y, c :: z, h, k => by
    simp only [Op.bytesLess, Bool.or_eq_true, decide_eq_true_eq, Bool.and_eq_true, beq_iff_eq] at h k ⊢
    rcases h with h | ⟨rfl, h⟩ <;> rcases k with k | ⟨rfl, k⟩
    · exact .inl (UInt8.lt_trans h k)
    · exact .inl h
    · exact .inl k
    · exact .inr ⟨rfl, bl_trans h k⟩
theorem bl_total : ∀ (x y : Bys), Op.bytesLess x y = false → Op.bytesLess y x = false → x = y
  | [], [], _, _ => rfl
  | [], _ :: _, h, _ => by simp [Op.bytesLess] at h
  | _ :: _, [], _, h => by simp [Op.bytesLess] at h
  | a :: x, b :: y, h, k => by
    simp only [Op.bytesLess, Bool.or_eq_false_iff, decide_eq_false_iff_not, Bool.and_eq_false_iff, beq_eq_false_iff_ne] at h k
    have e : a = b := by
      have h1 := UInt8.not_lt.1 h.1
      have h2 := UInt8.not_lt.1 k.1
      exact UInt8.le_antisymm h2 h1
    subst e
    rw [bl_total x y (h.2.resolve_left (by simp)) (k.2.resolve_left (by simp))]
theorem bl_ne {x y : List UInt8} (h : Op.bytesLess x y = true) : x ≠ y := by
  rintro rfl
  rw [bl_irrefl] at h; cases h
theorem bl_app : ∀ (a x y : Bys), Op.bytesLess (a ++ x) (a ++ y) = Op.bytesLess x y
  | [], _, _ => rfl
  | c :: a, x, y => by simp [Op.bytesLess, bl_app a x y]
theorem bl_hd {x y : List UInt8} (hx : x ≠ []) (hy : y ≠ []) (h : hdB x < hdB y) : Op.bytesLess x y = true := by
  obtain ⟨a, r, rfl⟩ := head_of_ne hx
  obtain ⟨b, s, rfl⟩ := head_of_ne hy
  simp only [hdB, List.headD_cons] at h
  have : a < b := by rw [UInt8.lt_iff_toNat_lt]; omega
  simp [Op.bytesLess, this]
def ownB (rs : List Row) : List Ent := if rs = [] then [] else [([], rs)]
def entB (t : Nd) : List Ent := ownB t.rows ++ entL t.kids
theorem entT_B (t : Nd) : entT t = (entB t).map fun e => (t.lab ++ e.1, e.2) := by
  rw [entT_eq, entB, List.map_append, ownB]
  split <;> simp
def sharedL : List UInt8 → List UInt8 → Nat
  | a :: r, b :: s => if a = b then sharedL r s + 1 else 0
  | _, _ => 0
def joinN (t : Nd) : Option Nd :=
  if t.rows ≠ [] ∨ 2 ≤ t.kids.length then some t else match t.kids with
    | [] => none
    | k :: _ => some (.node (t.lab ++ k.lab) k.rows k.kids)
def splitN (t : Nd) (n : Nat) : Nd := .node (t.lab.take n) [] [.node (t.lab.drop n) t.rows t.kids]
def downN (k : Nd) (p : Bys) : Nd := if sharedL k.lab p < k.lab.length then splitN k (sharedL k.lab p) else k
def setN (t : Nd) (i : Nat) : Option Nd → Nd
  | some k => .node t.lab t.rows (t.kids.set i k)
  | none => .node t.lab t.rows (t.kids.take i ++ t.kids.drop (i + 1))
def putN : Nat → Nd → List UInt8 → List Row → Nd
  | 0, t, _, _ => t
  | f + 1, t, p, rs => match p with
    | [] => .node t.lab rs t.kids
    | b :: q =>
      if hitK t.kids (b.toNat : Int) = true then
        if sharedL (t.kids.getD (posK t.kids (b.toNat : Int)) default).lab (b :: q) < (t.kids.getD (posK t.kids (b.toNat : Int)) default).lab.length ∧ rs = [] then t
        else setN t (posK t.kids (b.toNat : Int)) (joinN (putN f (downN (t.kids.getD (posK t.kids (b.toNat : Int)) default) (b :: q)) ((b :: q).drop (sharedL (t.kids.getD (posK t.kids (b.toNat : Int)) default).lab (b :: q))) rs))
      else if rs = [] then t else .node t.lab t.rows (t.kids.take (posK t.kids (b.toNat : Int)) ++ .node (b :: q) rs [] :: t.kids.drop (posK t.kids (b.toNat : Int)))
def kidsOk (l : List Nd) (n : Nat) : Prop := (∀ t ∈ l, okT t n = true) ∧ l.Pairwise fun a b => hdB a.lab < hdB b.lab
theorem okL_iff : ∀ {l : List Nd} {n : Nat} {f : Int}, okL l n f = true ↔ kidsOk l n ∧ ∀ t ∈ l, f < hdB t.lab
  | [], n, f => by simp [okL, kidsOk]
  | t :: r, n, f => by
    simp only [okL, Bool.and_eq_true, decide_eq_true_eq, okL_iff (l := r), kidsOk, List.mem_cons, forall_eq_or_imp, List.pairwise_cons]
    constructor
    · rintro ⟨⟨h1, h2⟩, ⟨h3, h4⟩, h5⟩
      exact ⟨⟨⟨h1, h3⟩, h5, h4⟩, h2, fun x hx => by have := h5 x hx; omega⟩
    · rintro ⟨⟨⟨h1, h3⟩, h5, h4⟩, h2, _⟩
      exact ⟨⟨h1, h2⟩, ⟨h3, h4⟩, h5⟩
theorem okL_iff' {l : List Nd} {n : Nat} : okL l n (-1) = true ↔ kidsOk l n := by
  rw [okL_iff]
  exact ⟨fun h => h.1, fun h => ⟨h, fun t _ => by have := (hdB_lt t.lab).1; omega⟩⟩
theorem kidsOk_sub {l m : List Nd} {n : Nat} (h : kidsOk l n) (hs : m.Sublist l) : kidsOk m n := ⟨fun t ht => h.1 t (hs.subset ht), h.2.sublist hs⟩
theorem okT_iff {t : Nd} {n : Nat} : okT t n = true ↔ t.lab ≠ [] ∧ t.lab.length ≤ n ∧ right t.rows = true ∧ (t.rows ≠ [] ∨ 2 ≤ t.kids.length) ∧ kidsOk t.kids (n - t.lab.length) := by
  rw [okT_eq]
  simp only [Bool.and_eq_true, decide_eq_true_eq, Bool.or_eq_true, okL_iff', and_assoc]
theorem hdB_app {a b : List UInt8} (h : a ≠ []) : hdB (a ++ b) = hdB a := by
  obtain ⟨x, r, rfl⟩ := head_of_ne h; rfl
theorem entL_hd {l : List Nd} {n : Nat} (h : kidsOk l n) {e : Ent} (he : e ∈ entL l) : e.1 ≠ [] ∧ ∃ t ∈ l, hdB e.1 = hdB t.lab := by
  obtain ⟨t, ht, s, hs⟩ := entL_pre he
  have hne := (okT_iff.1 (h.1 t ht)).1
  refine ⟨by rw [hs]; simp [hne], t, ht, by rw [hs, hdB_app hne]⟩
def putR (t : Nd) (p : Bys) (rs : List Row) : Nd := putN (p.length + 1) t p rs
theorem okR_iff {t : Nd} : okR t = true ↔ t.lab = [] ∧ t.rows = [] ∧ kidsOk t.kids 24 := by
  unfold okR
  simp only [Bool.and_eq_true, decide_eq_true_eq, okL_iff', and_assoc]
def entR (t : Nd) : List Ent := entL t.kids
end Go.Proofs.YtgaabjmbnomimaaDoor
namespace Go.Proofs.YtgaabjmbnomimaaDoor
open Go Go.Ev
def at0 (p : Bys) (n : Nat) : UInt8 := p.getD n 0
end Go.Proofs.YtgaabjmbnomimaaDoor
namespace Go.Proofs.YtgaabjmbnomimaaDoor
open Go Go.Ev
@[reducible] def VT (t : Nd) : V := .agg [.c (.str t.lab), .c (.sl 5 none false (rows t.rows)), .c (.sl 3 none false (encL t.kids))]
end Go.Proofs.YtgaabjmbnomimaaDoor
namespace Go.Proofs.YtgaabjmbnomimaaDoor
open Go Go.Ev
-- cse
variable (dd : Nat)
def s65 : CSpec := fun a h => match a, h with
  | [.agg [.c (.str s), .c (.sl 5 rn rt xs), .c (.sl 3 kn kt ys)], .c (.str p), .c (.sl 5 qn qt zs)], [] => some ([isRows xs, isL ys, isRows zs, okL (decL ys) 24 (-1), right (toRows xs), right (toRows zs), decide (s.length ≤ 24), decide (qn ≠ some true ∨ zs = []), decide (p.length < dd), decide (p.length ≤ 24)], [VT (putN (p.length + 1) (.node s (toRows xs) (decL ys)) p (toRows zs))], [])
  | _, _ => none
end Go.Proofs.YtgaabjmbnomimaaDoor
namespace Go.Proofs.YtgaabjmbnomimaaDoor
open Go Go.Ev
-- cse
def isPath (p : Bys) : Bool := decide (p ≠ []) && decide (p.length ≤ 24)
def s63 : CSpec := fun a h => match a, h with
  | [.c (.str p)], [] => some ([], [V.b (isPath p)], [])
  | _, _ => none
noncomputable abbrev p82 : Par := par E sh (ctOf []) 82 1 0
theorem t82 (p : Bys) : p82.ft ([V.c (C.str p)]) ([]) = (Tr.leaf (R.out [V.c (C.bool true)] [])) := by kernel_rfl
def s82 : CSpec := fun a h => match a, h with
  | [.c (.str p)], [] => some ([], [V.b true], [])
  | _, _ => none
noncomputable abbrev p134 : Par := par E sh (ctOf []) 134 3 0
theorem t134 (s : Bys) (rn : OBo) (rt : Bool) (xs : LLC) (kn : OBo) (kt : Bool) (ys : LLC) (q : Bys) : p134.ft ([V.agg [V.c (C.str s), V.c (C.sl 5 rn rt xs), V.c (C.sl 3 kn kt ys)], V.c (C.str q), V.fn 82 []]) ([]) = (Tr.leaf (R.out [V.fn 166 [V.ptr 1 0 0 0, V.ptr 0 0 0 0, V.ptr 2 0 0 0]] [O.box [V.c (C.str s), V.c (C.sl 5 rn rt xs), V.c (C.sl 3 kn kt ys)], O.box [V.c (C.str q)], O.box [V.fn 82 []]])) := by kernel_rfl
variable (dd : Nat)
mutual
def countT : Nd → Nat
  | .node _ _ ks => countL ks + 1
def countL : List Nd → Nat
  | [] => 0
  | t :: r => countT t + countL r
end
def s84 : CSpec := fun a h => match a, h with
  | [.agg [.c (.str s), .c (.sl 5 rn rt xs), .c (.sl 3 kn kt ys)]], [] => some ([isRows xs, isL ys, decide (depL (decL ys) < dd), decide (countL (decL ys) < 1000000000)], [V.i (countT (.node s (toRows xs) (decL ys)))], [])
  | _, _ => none
noncomputable abbrev p84 : Par := par E sh (ctOf [(84, s84 dd)]) 84 1 0
abbrev s84_0 (kn : OBo) (kt : Bool) (ys : LLC) (i3 : Int) (i8 : Int) (i9 : Int) : Fr × Hp := ([(3, V.c (C.int IntKind.i64 i3)), (7, V.c (C.sl 3 kn kt ys)), (8, V.c (C.int IntKind.i64 i8)), (9, V.c (C.int IntKind.i64 i9))], [])
noncomputable abbrev b84_0 : Code := loopAt (codeOf E (84)) 0
abbrev x84_0x0 (kn : OBo) (kt : Bool) (ys : LLC) (i3 : Int) (i8 : Int) (i9 : Int) : Ex × Fr × Hp := (Ex.exit 0, [(3, V.c (C.int IntKind.i64 i3)), (7, V.c (C.sl 3 kn kt ys)), (8, V.c (C.int IntKind.i64 i8)), (9, V.c (C.int IntKind.i64 i9)), (10, V.c (C.bool false))], [])
theorem t84_0 (kn : OBo) (kt : Bool) (ys : LLC) (i3 : Int) (i8 : Int) (i9 : Int) : (p84 dd).lts b84_0 (s84_0 kn kt ys i3 i8 i9) = (Tr.br (decide (i9 < i8)) (Tr.chk (decide (0 ≤ i9)) (Tr.chk true (Tr.chk (decide (i9.toNat < ys.length)) (Tr.chk (shOk [Sk.str, Sk.sl 5, Sk.sl 3] (ys.getD i9.toNat [])) (Tr.chk (isRows ((ys.getD i9.toNat []).tail.headD C.pnil).xs) (Tr.chk (isL ((ys.getD i9.toNat []).tail.tail.headD C.pnil).xs) (Tr.chk (decide (depL (decL ((ys.getD i9.toNat []).tail.tail.headD C.pnil).xs) < dd)) (Tr.chk (decide (countL (decL ((ys.getD i9.toNat []).tail.tail.headD C.pnil).xs) < 1000000000)) (Tr.leaf (R.s (s84_0 kn kt ys (IntKind.i64.wrap (i3 + (↑(countT (Nd.node ((ys.getD i9.toNat []).headD C.pnil).st (toRows ((ys.getD i9.toNat []).tail.headD C.pnil).xs) (decL ((ys.getD i9.toNat []).tail.tail.headD C.pnil).xs))) : Int))) i8 (IntKind.i64.wrap (i9 + 1))))))))))))) (Tr.leaf (R.x (x84_0x0 kn kt ys i3 i8 i9)))) := by kernel_rfl
theorem k84_0x0 (dd : Nat) (kn : OBo) (kt : Bool) (ys : LLC) (i3 : Int) (i8 : Int) (i9 : Int) : (p84 dd).fkx 0 (x84_0x0 kn kt ys i3 i8 i9) = (Tr.leaf (R.out [V.c (C.int IntKind.i64 i3)] [])) := by kernel_rfl
theorem t84 (s : Bys) (rn : OBo) (rt : Bool) (xs : LLC) (kn : OBo) (kt : Bool) (ys : LLC) : (p84 dd).ft ([V.agg [V.c (C.str s), V.c (C.sl 5 rn rt xs), V.c (C.sl 3 kn kt ys)]]) ([]) = (Tr.ls 0 (s84_0 kn kt ys (1) ((↑ys.length : Int)) (0))) := by kernel_rfl
noncomputable abbrev p36 : Par := par E sh (ctOf [(28, s28), (84, s84 dd)]) 36 1 0
theorem t36 (s : Bys) (rn : OBo) (rt : Bool) (xs : LLC) (kn : OBo) (kt : Bool) (ys : LLC) : (p36 dd).ft ([V.agg [V.c (C.str s), V.c (C.sl 5 rn rt xs), V.c (C.sl 3 kn kt ys)]]) ([]) = (Tr.chk (isRows xs) (Tr.chk (isL ys) (Tr.br (checkT (Nd.node s (toRows xs) (decL ys)) != 0) (Tr.leaf (R.out [V.c (C.int IntKind.i64 0)] [])) (Tr.chk (isRows xs) (Tr.chk (isL ys) (Tr.chk (decide (depL (decL ys) < dd)) (Tr.chk (decide (countL (decL ys) < 1000000000)) (Tr.leaf (R.out [V.c (C.int IntKind.i64 (↑(countT (Nd.node s (toRows xs) (decL ys))) : Int))] []))))))))) := by kernel_rfl
end Go.Proofs.YtgaabjmbnomimaaDoor
namespace Go.Proofs.YtgaabjmbnomimaaDoor
open Go Go.Ev
theorem f82 (p : Bys) : call E 82 [.c (.str p)] [] = some ([V.b true], []) := by
  refine call_of (E := E) (sh := sh) (ct := ctOf []) (na := 1) (m := 0) ctOf_nil rfl rfl rfl rfl rfl rfl ?_
  rw [t82]; rfl
theorem s82_ok : CSpecOk E 82 s82 := by
  intro a h cs vals h' he hc
  unfold s82 at he
  split at he <;> simp only [Option.some.injEq, Prod.mk.injEq, reduceCtorEq] at he
  obtain ⟨rfl, rfl, rfl⟩ := he
  exact f82 _
def putP (t : Nd) (p : Bys) (rs : List Row) : Nd × Int := if okR t = true ∧ isPath p = true ∧ right rs = true then (putR t p rs, 0) else (.node [] [] [], 2)
def s25 : CSpec := fun a h => match a, h with
  | [.agg [.c (.str s), .c (.sl 5 rn rt xs), .c (.sl 3 kn kt ys)], .c (.str p), .c (.sl 5 qn qt zs)], [] => some ([isRows xs, isL ys, isRows zs, decide (qn ≠ some true ∨ zs = [])], [VT (putP (.node s (toRows xs) (decL ys)) p (toRows zs)).1, V.i (putP (.node s (toRows xs) (decL ys)) p (toRows zs)).2], [])
  | _, _ => none
theorem checkT_ne (t : Nd) : (checkT t != 0) = !okR t := by
  unfold checkT; cases okR t <;> rfl
theorem countT_eq (t : Nd) : countT t = countL t.kids + 1 := by cases t; rw [countT]; rfl
theorem countL_mem : ∀ {l : List Nd} {t : Nd}, t ∈ l → countT t ≤ countL l
  | x :: r, t, h => by
    rw [countL]
    rcases List.mem_cons.1 h with rfl | h
    · omega
    · have := countL_mem h; omega
theorem countL_take_le (l : List Nd) (k : Nat) : countL (l.take k) ≤ countL l := by
  induction l generalizing k with
  | nil => simp [countL]
  | cons t r ih => cases k with
    | zero => simp [countL]
    | succ k => simp only [List.take_succ_cons, countL]; have := ih k; omega
theorem countL_app (a b : List Nd) : countL (a ++ b) = countL a + countL b := by
  induction a with
  | nil => simp [countL]
  | cons t r ih => simp only [List.cons_append, countL, ih]; omega
theorem f84 (dd : Nat) (ih : CSpecOk E 84 (s84 dd)) (s : Bys) (rn : OBo) (rt : Bool) (rs : List Row) (kn : OBo) (kt : Bool) (ks : List Nd) (hd : depL ks < dd + 1) (hc : countL ks < 1000000000) :
    call E 84 [.agg [.c (.str s), .c (.sl 5 rn rt (rows rs)), .c (.sl 3 kn kt (encL ks))]] [] = some ([V.i (countT (.node s rs ks))], []) := by
  have hct : (ctOf [(84, s84 dd)]).ok E := ctOf_cons ih ctOf_nil
  refine call_of (E := E) (sh := sh) (ct := ctOf [(84, s84 dd)]) (na := 1) (m := 0) hct rfl rfl rfl rfl rfl rfl ?_
  show (p84 dd).fd ((p84 dd).ft _ _) = _
  rw [t84, encL_length]
  have hkl : ks.length ≤ countL ks := by
    clear hd hc
    induction ks with
    | nil => simp
    | cons t r ih => rw [countL, countT_eq, List.length_cons]; omega
  refine fd_post hct (by kernel_rfl) rfl (list_post (p := p84 dd) hct (b := b84_0) ks.length (fun k (m : Nat) => s84_0 kn kt (encL ks) m ks.length k) (fun k m => m = countL (ks.take k) + 1) _ ?_ ?_ 0 (Nat.zero_le _) 1 rfl)
  · rintro k m hk rfl
    have hkid : depL ks[k].kids < dd := by have := depL_kid (List.getElem_mem hk); omega
    have hcm := countL_mem (List.getElem_mem hk)
    rw [countT_eq] at hcm
    have hnx : countL (ks.take (k + 1)) = countL (ks.take k) + countT ks[k] := by rw [List.take_succ_eq_append_getElem hk, countL_app]; simp [countL]
    have hle := countL_take_le ks (k + 1)
    left
    refine ⟨countL (ks.take (k + 1)) + 1, rfl, ?_⟩
    rw [t84_0]
    simp only [nd_ok, nd_lab, nd_rows, nd_kids, encL_length, isL_enc, decL_enc, wrap_hd, hd_pos, ld_br, ld_chk', ld_leaf, fd_br, fd_chk', fd_leaf, decide_true, decide_eq_true_eq, if_true, Int.toNat_natCast, Int.natCast_nonneg, Int.ofNat_lt, Int.ofNat_le, Bool.false_eq_true, if_false, bne_iff_ne, beq_iff_eq, ne_eq, not_true_eq_false, not_false_eq_true, Bool.not_eq_true', decide_eq_false_iff_not, reduceCtorEq, rows_length, pcs_length, er_ok, er_ok', ep_ok, ep_ok', dr_er, dp_ep, isRows_rows, isPcs_pcs, toRows_rows, toPcs_pcs, rows_take, rows_drop, pcs_take, pcs_drop, rows_append, pcs_append, ints_length, isInts_ints, toInts_ints, ei_i, ei_ok, mk_headD, ints_take, ints_drop, ints_append, ints_snoc, ints_snoc', List.take_length, Nat.zero_add, Nat.le_refl, er_a, er_b, er_k, er_n, er_s, er_v, ep_a, ep_b, ep_hk, ep_hn, ep_hs, ep_wk, ep_wn, ep_ws, hk, encL_getD hk, nd_node, hkid, show countL ks[k].kids < 1000000000 by omega, wrap_succ (show k < 9223372036854775807 by omega)]
    have w : IntKind.wrap .i64 (((countL (ks.take k) + 1 : Nat) : Int) + (countT ks[k] : Nat)) = ((countL (ks.take (k + 1)) + 1 : Nat) : Int) := by
      rw [wrap_same (by omega) (by omega)]; omega
    rw [w]
  · rintro _ rfl
    rw [t84_0]
    refine ⟨x84_0x0 kn kt (encL ks) (countL (ks.take ks.length) + 1 : Nat) ks.length ks.length, by simp, ?_, by simp only [nd_ok, nd_lab, nd_rows, nd_kids, encL_length, isL_enc, decL_enc, wrap_hd, hd_pos, ld_br, ld_chk', ld_leaf, fd_br, fd_chk', fd_leaf, decide_true, decide_eq_true_eq, if_true, Int.toNat_natCast, Int.natCast_nonneg, Int.ofNat_lt, Int.ofNat_le, Bool.false_eq_true, if_false, bne_iff_ne, beq_iff_eq, ne_eq, not_true_eq_false, not_false_eq_true, Bool.not_eq_true', decide_eq_false_iff_not, reduceCtorEq, rows_length, pcs_length, er_ok, er_ok', ep_ok, ep_ok', dr_er, dp_ep, isRows_rows, isPcs_pcs, toRows_rows, toPcs_pcs, rows_take, rows_drop, pcs_take, pcs_drop, rows_append, pcs_append, ints_length, isInts_ints, toInts_ints, ei_i, ei_ok, mk_headD, ints_take, ints_drop, ints_append, ints_snoc, ints_snoc', List.take_length, Nat.zero_add, Nat.le_refl, er_a, er_b, er_k, er_n, er_s, er_v, ep_a, ep_b, ep_hk, ep_hn, ep_hs, ep_wk, ep_wn, ep_ws, Int.lt_irrefl]⟩
    rw [k84_0x0, fd_leaf, List.take_length, countT]
theorem s84_ok : ∀ d, CSpecOk E 84 (s84 d)
  | 0 => by
    intro a h cs vals h' he hc
    unfold s84 at he
    split at he <;> simp only [Option.some.injEq, Prod.mk.injEq, reduceCtorEq] at he
    obtain ⟨rfl, rfl, rfl⟩ := he
    simp [allT] at hc
  | d + 1 => by
    intro a h cs vals h' he hc
    unfold s84 at he
    split at he <;> simp only [Option.some.injEq, Prod.mk.injEq, reduceCtorEq] at he
    rename_i s rn rt xs kn kt ys
    obtain ⟨rfl, rfl, rfl⟩ := he
    simp only [allT, Bool.and_true, Bool.and_eq_true, decide_eq_true_eq] at hc
    obtain ⟨h1, h2, h3, h4⟩ := hc
    obtain ⟨rs, rfl⟩ := rows_ex h1
    obtain ⟨ks, rfl⟩ := isL_ex h2
    simp only [toRows_rows, decL_enc] at *
    exact f84 d (s84_ok d) s rn rt rs kn kt ks h3 h4
def nodesP (t : Nd) : Int := if okR t = true then countT t else 0
def s36 : CSpec := fun a h => match a, h with
  | [.agg [.c (.str s), .c (.sl 5 rn rt xs), .c (.sl 3 kn kt ys)]], [] => some ([isRows xs, isL ys, decide (countL (decL ys) < 1000000000)], [V.i (nodesP (.node s (toRows xs) (decL ys)))], [])
  | _, _ => none
theorem f36 (s : Bys) (rn : OBo) (rt : Bool) (rs : List Row) (kn : OBo) (kt : Bool) (ks : List Nd) (hc : countL ks < 1000000000) :
    call E 36 [.agg [.c (.str s), .c (.sl 5 rn rt (rows rs)), .c (.sl 3 kn kt (encL ks))]] [] = some ([V.i (nodesP (.node s rs ks))], []) := by
  have hct : (ctOf [(28, s28), (84, s84 (depL ks + 1))]).ok E := ctOf_cons s28_ok (ctOf_cons (s84_ok _) ctOf_nil)
  refine call_of (E := E) (sh := sh) (ct := ctOf [(28, s28), (84, s84 (depL ks + 1))]) (na := 1) (m := 0) hct rfl rfl rfl rfl rfl rfl ?_
  show (p36 (depL ks + 1)).fd ((p36 (depL ks + 1)).ft _ _) = _
  rw [t36]
  simp only [nd_ok, nd_lab, nd_rows, nd_kids, encL_length, isL_enc, decL_enc, wrap_hd, hd_pos, ld_br, ld_chk', ld_leaf, fd_br, fd_chk', fd_leaf, decide_true, decide_eq_true_eq, if_true, Int.toNat_natCast, Int.natCast_nonneg, Int.ofNat_lt, Int.ofNat_le, Bool.false_eq_true, if_false, bne_iff_ne, beq_iff_eq, ne_eq, not_true_eq_false, not_false_eq_true, Bool.not_eq_true', decide_eq_false_iff_not, reduceCtorEq, rows_length, pcs_length, er_ok, er_ok', ep_ok, ep_ok', dr_er, dp_ep, isRows_rows, isPcs_pcs, toRows_rows, toPcs_pcs, rows_take, rows_drop, pcs_take, pcs_drop, rows_append, pcs_append, ints_length, isInts_ints, toInts_ints, ei_i, ei_ok, mk_headD, ints_take, ints_drop, ints_append, ints_snoc, ints_snoc', List.take_length, Nat.zero_add, Nat.le_refl, er_a, er_b, er_k, er_n, er_s, er_v, ep_a, ep_b, ep_hk, ep_hn, ep_hs, ep_wk, ep_wn, ep_ws, checkT_ne, show depL ks < depL ks + 1 by omega, hc]
  unfold nodesP
  cases okR (.node s rs ks) <;> simp
theorem s36_ok : CSpecOk E 36 s36 := by
  intro a h cs vals h' he hc
  unfold s36 at he
  split at he <;> simp only [Option.some.injEq, Prod.mk.injEq, reduceCtorEq] at he
  rename_i s rn rt xs kn kt ys
  obtain ⟨rfl, rfl, rfl⟩ := he
  simp only [allT, Bool.and_true, Bool.and_eq_true, decide_eq_true_eq] at hc
  obtain ⟨h1, h2, h3⟩ := hc
  obtain ⟨rs, rfl⟩ := rows_ex h1
  obtain ⟨ks, rfl⟩ := isL_ex h2
  simp only [toRows_rows, decL_enc] at *
  exact f36 s rn rt rs kn kt ks h3
end Go.Proofs.YtgaabjmbnomimaaDoor
namespace Go.Proofs.YtgaabjmbnomimaaDoor
open Go Go.Ev
abbrev Rise (l : List Ent) : Prop := l.Pairwise fun a b => Op.bytesLess a.1 b.1 = true
theorem rise_map (q : Bys) {l : List Ent} (h : Rise l) : Rise (l.map fun e => (q ++ e.1, e.2)) := by
  rw [Rise, List.pairwise_map]
  exact h.imp fun h => by rw [bl_app]; exact h
theorem entL_ne_nil {l : List Nd} {n : Nat} (h : kidsOk l n) : ∀ e ∈ entL l, e.1 ≠ [] := fun _ he => (entL_hd h he).1
theorem rise_own {rs : List Row} {l : List Ent} (h : Rise l) (hn : ∀ e ∈ l, e.1 ≠ []) : Rise (ownB rs ++ l) := by
  unfold ownB
  split
  · exact h
  · rw [List.singleton_append, Rise, List.pairwise_cons]
    refine ⟨fun e he => ?_, h⟩
    obtain ⟨b, q, hb⟩ := head_of_ne (hn e he)
    simp only [hb]; rfl
mutual
theorem entT_rise : ∀ (t : Nd) (n : Nat), okT t n = true → Rise (entT t)
  | .node s rs ks, n, h => by
    obtain ⟨g1, g2, g3, g4, g5⟩ := okT_iff.1 h
    simp only [Nd.lab_node, Nd.rows_node, Nd.kids_node] at g5
    rw [entT_B]
    exact rise_map _ (rise_own (entL_rise ks _ g5) (entL_ne_nil g5))
theorem entL_rise : ∀ (l : List Nd) (n : Nat), kidsOk l n → Rise (entL l)
  | [], _, _ => List.Pairwise.nil
  | t :: r, n, h => by
    have hr : kidsOk r n := kidsOk_sub h (List.sublist_cons_self _ _)
    have hT := h.1 t (by simp)
    have hlt : ∀ k ∈ r, hdB t.lab < hdB k.lab := by have := h.2; rw [List.pairwise_cons] at this; exact this.1
    rw [entL, Rise, List.pairwise_append]
    refine ⟨entT_rise t n hT, entL_rise r n hr, fun a ha b hb => ?_⟩
    obtain ⟨s, hs⟩ := entT_pre t a ha
    obtain ⟨hbn, k, hk, hkb⟩ := entL_hd hr hb
    have hne := (okT_iff.1 hT).1
    refine bl_hd (by rw [hs]; simp [hne]) hbn ?_
    rw [hs, hdB_app hne, hkb]; exact hlt k hk
end
theorem entL_right : ∀ (l : List Nd) (n : Nat), kidsOk l n → ∀ e ∈ entL l, right e.2 = true := by
  have main : ∀ (d : Nat) (l : List Nd) (n : Nat), depL l < d → kidsOk l n → ∀ e ∈ entL l, right e.2 = true := by
    intro d
    induction d with
    | zero => intro l n h; omega
    | succ d ih =>
      intro l n hd h e he
      induction l with
      | nil => simp [entL] at he
      | cons t r ih2 =>
        rw [entL] at he
        rcases List.mem_append.1 he with he | he
        · have hT := okT_iff.1 (h.1 t (by simp))
          rw [entT_B] at he
          obtain ⟨x, hx, rfl⟩ := List.mem_map.1 he
          rcases List.mem_append.1 hx with hx | hx
          · unfold ownB at hx
            split at hx
            · simp at hx
            · simp only [List.mem_singleton] at hx; subst hx; exact hT.2.2.1
          · exact ih t.kids _ (by have := depL_kid (l := t :: r) (t := t) (by simp); omega) hT.2.2.2.2 x hx
        · exact ih2 (by rw [depL] at hd; omega) (kidsOk_sub h (List.sublist_cons_self _ _)) he
  exact fun l n h => main (depL l + 1) l n (Nat.lt_succ_self _) h
theorem entR_rise {t : Nd} (h : okR t = true) : Rise (entR t) := entL_rise _ _ (okR_iff.1 h).2.2
end Go.Proofs.YtgaabjmbnomimaaDoor
namespace Go.Proofs.YtgaabjmbnomimaaDoor
open Go Go.Ev Go.Sort
theorem cmpB_neg {x y : List UInt8} : cmpB x y < 0 ↔ Op.bytesLess x y = true := by
  unfold cmpB
  split
  · rename_i h; simp [h]
  · rename_i h
    split <;> simp [h]
theorem swoT : SWO (fun x y : Tg => decide (cmpB x.1 y.1 < 0)) where
  irrefl x := by
    have : ¬ cmpB x.1 x.1 < 0 := by rw [cmpB_neg, bl_irrefl]; simp
    simpa using this
  trans x y z h1 h2 := by
    simp only [decide_eq_true_eq] at *
    rw [cmpB_neg] at *
    exact bl_trans h1 h2
  ntrans x y z h1 h2 := by
    simp only [decide_eq_false_iff_not] at *
    rw [cmpB_neg] at *
    intro h3
    rw [Bool.not_eq_true] at h1 h2
    cases h4 : Op.bytesLess y.1 x.1 with
    | true => rw [bl_trans h4 h3] at h2; cases h2
    | false =>
      have := bl_total _ _ h1 h4
      rw [this, h2] at h3; cases h3
theorem sortT_spec (l : List Tg) (h : l.length < 4611686018427387904) : (sortT l).Perm l ∧ (sortT l).Pairwise (fun x y => Op.bytesLess y.1 x.1 = false) := by
  have hs : l.toArray.size = l.length := by simp
  obtain ⟨h1, h2⟩ := pdq_sorts (fun x y : Tg => decide (cmpB x.1 y.1 < 0)) swoT l.toArray 0 l.toArray.size (Lib.bitLen l.toArray.size) true true (Nat.zero_le _) (Nat.le_refl _) (Or.inl rfl)
  rw [hs] at h1 h2
  unfold sortT
  generalize pdq (fun x y : Tg => decide (cmpB x.1 y.1 < 0)) l.toArray 0 l.length (Lib.bitLen l.length) true true = d at h1 h2
  obtain ⟨p1, p2, p3⟩ := h1
  rw [hs] at p1
  constructor
  · rw [show d.extract 0 l.length = d by rw [← p1]; simp, show l.toArray.extract 0 l.length = l.toArray by simp] at p3
    simpa using p3
  · rw [List.pairwise_iff_getElem]
    intro i j hi hj hij
    have hi' : i < d.size := by simpa using hi
    have hj' : j < d.size := by simpa using hj
    have := h2 i j (Nat.zero_le _) hij (by omega)
    simp only [decide_eq_false_iff_not] at this
    rw [cmpB_neg, Bool.not_eq_true] at this
    rw [getElem!_pos d i hi', getElem!_pos d j hj'] at this
    simpa using this
theorem tagE_len : ∀ (n : Nat) (xs : LLC), (tagE n xs).length = xs.length
  | _, [] => rfl
  | n, x :: r => by simp [tagE, tagE_len]
theorem tagE_get : ∀ (n : Nat) (xs : LLC) (k : Nat) (h : k < xs.length), (tagE n xs)[k]'(by rw [tagE_len]; exact h) = ((xs[k].headD .pnil).st, n + k)
  | n, x :: r, 0, _ => rfl
  | n, x :: r, k + 1, h => by
    have := tagE_get (n + 1) r k (by simpa using h)
    simp only [tagE, List.getElem_cons_succ, this]
    congr 1; omega
theorem tagE_mem {xs : List (List C)} {t : Tg} (h : t ∈ tagE 0 xs) : ∃ h : t.2 < xs.length, t.1 = (xs[t.2].headD .pnil).st := by
  obtain ⟨k, hk, rfl⟩ := List.getElem_of_mem h
  rw [tagE_len] at hk
  rw [tagE_get 0 xs k hk]
  simp only [Nat.zero_add]
  exact ⟨hk, trivial⟩
theorem tagE_map (xs : LLC) : (tagE 0 xs).map (fun t => xs.getD t.2 []) = xs := by
  refine List.ext_getElem (by simp [tagE_len]) fun k h1 h2 => ?_
  rw [List.getElem_map, tagE_get 0 xs k h2]
  simp [List.getD_eq_getElem?_getD, h2]
theorem sortX_perm (xs : LLC) (h : xs.length < 4611686018427387904) : (sortX xs).Perm xs := by
  have := (sortT_spec (tagE 0 xs) (by rw [tagE_len]; exact h)).1.map fun t => xs.getD t.2 []
  rw [tagE_map] at this
  exact this
theorem sortX_len (xs : LLC) (h : xs.length < 4611686018427387904) : (sortX xs).length = xs.length := (sortX_perm xs h).length_eq
end Go.Proofs.YtgaabjmbnomimaaDoor
namespace Go.Proofs
open Go.Shelf
def Tryd.lays197_ren : Go.Shelf.Ren := ⟨fun | 197 => 183 | 260 => 184 | n => n, fun | 9 => 9 | 21 => 21 | 3 => 3 | 4 => 4 | 5 => 5 | 105 => 206 | 119 => 208 | 0 => 0 | 46 => 158 | 139 => 211 | 138 => 210 | n => n, fun | 3 => 1 | 4 => 2 | n => n⟩
theorem Tryd.lays197 : Go.Proofs.Lays.n197 Tryd.prog Tryd.lays197_ren := {
  mixed := by kernel_rfl
  f197 := Tryd.func183.trans (congrArg some (by kernel_rfl))
  f260 := Tryd.func184.trans (congrArg some (by kernel_rfl))
  t0 := Tryd.underlying0
  a0 := Tryd.isAgg0
  z0 := Tryd.sizeOf0
  v0 := Tryd.zeroValue0
  t3 := Tryd.underlying3
  a3 := Tryd.isAgg3
  z3 := Tryd.sizeOf3
  v3 := Tryd.zeroValue3
  t4 := Tryd.underlying4
  a4 := Tryd.isAgg4
  z4 := Tryd.sizeOf4
  v4 := Tryd.zeroValue4
  t5 := Tryd.underlying5
  a5 := Tryd.isAgg5
  z5 := Tryd.sizeOf5
  v5 := Tryd.zeroValue5
  t9 := Tryd.underlying9
  a9 := Tryd.isAgg9
  z9 := Tryd.sizeOf9
  v9 := Tryd.zeroValue9
  t21 := Tryd.underlying21
  a21 := Tryd.isAgg21
  z21 := Tryd.sizeOf21
  v21 := Tryd.zeroValue21
  t46 := Tryd.underlying158
  a46 := Tryd.isAgg158
  z46 := Tryd.sizeOf158
  v46 := Tryd.zeroValue158
  t105 := Tryd.underlying206
  a105 := Tryd.isAgg206
  z105 := Tryd.sizeOf206
  v105 := Tryd.zeroValue206
  t119 := Tryd.underlying208
  a119 := Tryd.isAgg208
  z119 := Tryd.sizeOf208
  t138 := Tryd.underlying210
  a138 := Tryd.isAgg210
  z138 := Tryd.sizeOf210
  v138 := Tryd.zeroValue210
  t139 := Tryd.underlying211
  a139 := Tryd.isAgg211
  z139 := Tryd.sizeOf211
  v139 := Tryd.zeroValue211
  g3 := by kernel_rfl
  g4 := by kernel_rfl }
def Tryd.lays106_ren : Go.Shelf.Ren := ⟨fun | 106 => 75 | 213 => 129 | 265 => 162 | n => n, fun | 9 => 9 | 3 => 3 | n => n, fun | n => n⟩
theorem Tryd.lays106 : Go.Proofs.Lays.n106 Tryd.prog Tryd.lays106_ren := {
  mixed := by kernel_rfl
  f106 := Tryd.func75.trans (congrArg some (by kernel_rfl))
  f213 := Tryd.func129.trans (congrArg some (by kernel_rfl))
  f265 := Tryd.func162.trans (congrArg some (by kernel_rfl))
  t3 := Tryd.underlying3
  a3 := Tryd.isAgg3
  z3 := Tryd.sizeOf3
  v3 := Tryd.zeroValue3
  t9 := Tryd.underlying9
  a9 := Tryd.isAgg9
  z9 := Tryd.sizeOf9
  v9 := Tryd.zeroValue9 }
def Tryd.sortE_ren : Go.Shelf.Ren := ⟨fun | 6 => 73 | 15 => 128 | 14 => 127 | 28 => 160 | 29 => 161 | 20 => 152 | 21 => 153 | 22 => 154 | 23 => 155 | 24 => 156 | 25 => 157 | 26 => 158 | 27 => 159 | 46 => 172 | 47 => 173 | 48 => 174 | 49 => 175 | 50 => 176 | 57 => 182 | n => n, fun | 22 => 55 | 24 => 65 | 25 => 116 | 3 => 3 | 39 => 158 | 0 => 0 | 53 => 184 | 55 => 186 | 4 => 4 | 46 => 178 | 45 => 177 | 50 => 107 | 5 => 5 | 9 => 9 | 66 => 190 | 70 => 194 | 76 => 203 | 77 => 204 | n => n, fun | n => n⟩
theorem Tryd.sortE : Go.Proofs.SlLaysF0.n6 Tryd.prog Tryd.sortE_ren := {
  mixed := by kernel_rfl
  f6 := ⟨Tryd.f73.name, by decide, Tryd.func73.trans (congrArg some (by kernel_rfl))⟩
  f14 := ⟨Tryd.f127.name, by decide, Tryd.func127.trans (congrArg some (by kernel_rfl))⟩
  f15 := Tryd.func128.trans (congrArg some (by kernel_rfl))
  f20 := ⟨Tryd.f152.name, by decide, Tryd.func152.trans (congrArg some (by kernel_rfl))⟩
  f21 := ⟨Tryd.f153.name, by decide, Tryd.func153.trans (congrArg some (by kernel_rfl))⟩
  f22 := ⟨Tryd.f154.name, by decide, Tryd.func154.trans (congrArg some (by kernel_rfl))⟩
  f23 := ⟨Tryd.f155.name, by decide, Tryd.func155.trans (congrArg some (by kernel_rfl))⟩
  f24 := ⟨Tryd.f156.name, by decide, Tryd.func156.trans (congrArg some (by kernel_rfl))⟩
  f25 := ⟨Tryd.f157.name, by decide, Tryd.func157.trans (congrArg some (by kernel_rfl))⟩
  f26 := ⟨Tryd.f158.name, by decide, Tryd.func158.trans (congrArg some (by kernel_rfl))⟩
  f27 := ⟨Tryd.f159.name, by decide, Tryd.func159.trans (congrArg some (by kernel_rfl))⟩
  f28 := Tryd.func160.trans (congrArg some (by kernel_rfl))
  f29 := Tryd.func161.trans (congrArg some (by kernel_rfl))
  f46 := ⟨Tryd.f172.name, by decide, Tryd.func172.trans (congrArg some (by kernel_rfl))⟩
  f47 := Tryd.func173.trans (congrArg some (by kernel_rfl))
  f48 := Tryd.func174.trans (congrArg some (by kernel_rfl))
  f49 := ⟨Tryd.f175.name, by decide, Tryd.func175.trans (congrArg some (by kernel_rfl))⟩
  f50 := ⟨Tryd.f176.name, by decide, Tryd.func176.trans (congrArg some (by kernel_rfl))⟩
  f57 := ⟨Tryd.f182.name, by decide, Tryd.func182.trans (congrArg some (by kernel_rfl))⟩
  t0 := Tryd.underlying0
  a0 := Tryd.isAgg0
  z0 := Tryd.sizeOf0
  v0 := Tryd.zeroValue0
  t3 := Tryd.underlying3
  a3 := Tryd.isAgg3
  z3 := Tryd.sizeOf3
  v3 := Tryd.zeroValue3
  t4 := Tryd.underlying4
  a4 := Tryd.isAgg4
  z4 := Tryd.sizeOf4
  v4 := Tryd.zeroValue4
  t5 := Tryd.underlying5
  a5 := Tryd.isAgg5
  z5 := Tryd.sizeOf5
  v5 := Tryd.zeroValue5
  t9 := Tryd.underlying9
  a9 := Tryd.isAgg9
  z9 := Tryd.sizeOf9
  v9 := Tryd.zeroValue9
  t22 := Tryd.underlying55
  a22 := Tryd.isAgg55
  z22 := Tryd.sizeOf55
  v22 := Tryd.zeroValue55
  t25 := Tryd.underlying116
  a25 := Tryd.isAgg116
  z25 := Tryd.sizeOf116
  v25 := Tryd.zeroValue116
  t39 := Tryd.underlying158
  a39 := Tryd.isAgg158
  z39 := Tryd.sizeOf158
  v39 := Tryd.zeroValue158
  t45 := Tryd.underlying177
  a45 := Tryd.isAgg177
  z45 := Tryd.sizeOf177
  v45 := Tryd.zeroValue177
  t46 := Tryd.underlying178
  a46 := Tryd.isAgg178
  z46 := Tryd.sizeOf178
  v46 := Tryd.zeroValue178
  t50 := Tryd.underlying107
  a50 := Tryd.isAgg107
  z50 := Tryd.sizeOf107
  v50 := Tryd.zeroValue107
  t53 := Tryd.underlying184
  a53 := Tryd.isAgg184
  z53 := Tryd.sizeOf184
  v53 := Tryd.zeroValue184
  t55 := Tryd.underlying186
  a55 := Tryd.isAgg186
  z55 := Tryd.sizeOf186
  v55 := Tryd.zeroValue186
  t66 := Tryd.underlying190
  a66 := Tryd.isAgg190
  z66 := Tryd.sizeOf190
  v66 := Tryd.zeroValue190
  t70 := Tryd.underlying194
  a70 := Tryd.isAgg194
  z70 := Tryd.sizeOf194
  v70 := Tryd.zeroValue194
  t76 := Tryd.underlying203
  a76 := Tryd.isAgg203
  z76 := Tryd.sizeOf203
  v76 := Tryd.zeroValue203
  t77 := Tryd.underlying204
  a77 := Tryd.isAgg204
  z77 := Tryd.sizeOf204
  v77 := Tryd.zeroValue204 }
end Go.Proofs
namespace Go.Proofs.YtgaabjmbnomimaaDoor
open Go Go.RowKit
theorem inc_walk (b : Nat) (v : Int) (x y : Value) (w : World) (hb : w.heap[b]? = some (.cells #[.int .i64 v] 3 (0, 0))) :
    Calls Tryd.prog 170 #[x, y, .pointer (some ⟨b, 0, none⟩)] w fun e w' => e = .returned (.tuple #[]) ∧ w' = w.setCell ⟨b, 0, none⟩ (.int .i64 (wrap64 (v + 1))) := by
  have h1 : w.cell? ⟨b, 0, none⟩ = some (.int .i64 v) := by simp [World.cell?, hb]
  have h2 : w.frozen? ⟨b, 0, none⟩ = false := by simp [World.frozen?, hb]
  go_enter Tryd.func170, Tryd.ntmps170
  go_wp2
  go_end0
  exact ⟨rfl, rfl⟩
structure Nx (w w' : World) (b : Nat) (v : Int) : Prop where
  os : w'.os = w.os
  tape : w'.tape = w.tape
  output : w'.output = w.output
  size : w.heap.size ≤ w'.heap.size
  keep : ∀ c, c < w.heap.size → c ≠ b → w'.heap[c]? = w.heap[c]?
  box : w'.heap[b]? = some (.cells #[.int .i64 v] 3 (0, 0))
theorem Nx.below {w w1 w2 : World} {b : Nat} {v : Int} (h : Nx w w1 b v) (hb : b < w.heap.size) (k : Below w1.heap.size w1 w2) : Nx w w2 b v :=
  ⟨k.os.trans h.os, k.tape.trans h.tape, k.output.trans h.output, Nat.le_trans h.size k.size, fun c hc hne => (k.block c (Nat.lt_of_lt_of_le hc h.size)).trans (h.keep c hc hne), (k.block b (Nat.lt_of_lt_of_le hb h.size)).trans h.box⟩
theorem setCell_box {w : World} {b : Nat} {x : Value} {t : TypeId} (h : w.heap[b]? = some (.cells #[x] t (0, 0))) (y : Value) : (w.setCell ⟨b, 0, none⟩ y).heap[b]? = some (.cells #[y] t (0, 0)) ∧ (∀ c, c ≠ b → (w.setCell ⟨b, 0, none⟩ y).heap[c]? = w.heap[c]?) ∧ (w.setCell ⟨b, 0, none⟩ y).heap.size = w.heap.size := by
  have hlt : b < w.heap.size := (Array.getElem?_eq_some_iff.1 h).1
  refine ⟨?_, fun c hc => ?_, ?_⟩
  · simp [World.setCell, Array.getElem?_modify, h]
  · simp [World.setCell, Array.getElem?_modify, Ne.symm hc]
  · simp [World.setCell]
theorem Nx.set {w w1 : World} {b : Nat} {v : Int} (h : Nx w w1 b v) (u : Int) : Nx w (w1.setCell ⟨b, 0, none⟩ (.int .i64 u)) b u := by
  obtain ⟨h1, h2, h3⟩ := setCell_box h.box (.int .i64 u)
  exact ⟨h.os, h.tape, h.output, by rw [h3]; exact h.size, fun c hc hne => (h2 c hne).trans (h.keep c hc hne), h1⟩
theorem each_walk (s : ByteArray) (w : World) (b : Nat) (v : Int) (hb : w.heap[b]? = some (.cells #[.int .i64 v] 3 (0, 0))) (h2 : 3 ≤ b) (hv : 0 ≤ v) (hvs : v + s.size < 9223372036854775808) (hT : Lib.Utf8Tabs 1 2 w) (R : Option Nat) (hR : runesN s s.size 0 = R) :
    Calls Tryd.prog 180 #[.string s, .func (.func 170) #[] #[.pointer (some ⟨b, 0, none⟩)]] w fun e w' => ∃ v', Nx w w' b v' ∧ match R with
      | some n => e = .returned (.tuple #[]) ∧ v' = v + n
      | none => ∃ x, e = .panicked [{ v := .iface 199 x, recovered := false }] := by
  have hbl : b < w.heap.size := (Array.getElem?_eq_some_iff.1 hb).1
  have hnx0 : Nx w w b v := ⟨rfl, rfl, rfl, Nat.le_refl _, fun _ _ _ => rfl, hb⟩
  go_enter Tryd.func180, Tryd.ntmps180
  go_wp2
  go_loopw [] (fun wr => ∃ (pos fuel cnt : Nat), wr.heap[w.heap.size]? = some (.stringIter s pos) ∧ Nx w wr b (v + cnt) ∧ Hid (R = (runesN s fuel pos).map (· + cnt)) ∧ s.size ≤ pos + fuel ∧ cnt ≤ pos ∧ cnt ≤ s.size) (fun wr => s.size - wr.iterPos w.heap.size)
  case atStart =>
    refine ⟨0, s.size, 0, World.iter_heap w s 0, ?_, ?_, by omega, by omega, by omega⟩
    · have := hnx0.below hbl ((Below.refl _ _).alloc (Nat.le_refl _) (.stringIter s 0))
      simpa [World.iter] using this
    · show R = _
      rw [hR]; cases R <;> simp
  case round =>
    obtain ⟨pos, fuel, cnt, hit, hnx, HS, hf, hc1, hc2⟩ := hrel
    have hpos0 := iterPos_of hit
    obtain ⟨c, hc⟩ : ∃ c, (Utf8.decode s pos).1 = c := ⟨_, rfl⟩
    obtain ⟨wd, hwd⟩ : ∃ wd, (Utf8.decode s pos).2 = wd := ⟨_, rfl⟩
    by_cases hp : pos < s.size
    · have hnext : ∀ ty, (Instr.next (.pointer (some ⟨w.heap.size, 0, none⟩)) true ty).run Tryd.prog wr = _ := fun ty => Lib.run_next_any_at wr w.heap.size s pos ty hit hp
      rw [hc, hwd] at hnext
      have hwd1 : 1 ≤ wd := by rw [← hwd]; exact width_pos s pos
      obtain ⟨W1, hW1⟩ : ∃ W1, W1 = wr.iterAt w.heap.size s (pos + wd) := ⟨_, rfl⟩
      rw [← hW1] at hnext
      have hit2 : W1.heap[w.heap.size]? = some (.stringIter s (pos + wd)) := by rw [hW1]; exact Lib.iterAt_heap wr _ s pos _ hit
      have hnx1 : Nx w W1 b (v + cnt) := by
        subst hW1
        exact ⟨hnx.os, hnx.tape, hnx.output, by rw [Lib.iterAt_size]; exact hnx.size, fun c hc hne => (Lib.iterAt_other wr _ c s _ (by omega)).trans (hnx.keep c hc hne), (Lib.iterAt_other wr _ b s _ (by omega)).trans hnx.box⟩
      have hbox1 := hnx1.box
      clear hW1 hit hnx
      have hinc := inc_walk b (v + cnt) (.int .i64 pos) (.int .i32 c) W1 hbox1
      by_cases hbad : c = 65533
      · subst hbad
        have hext : (s.extract pos s.size).data.toList = s.data.toList.drop pos := by
          simp only [ByteArray.data_extract, Array.toList_extract, List.extract_eq_drop_take]
          exact List.take_of_length_le (by simp)
        have hgo : Lib.decodeGo (s.extract pos s.size) = (65533, wd) := by
          have h1 : (s.extract pos s.size).size ≠ 0 := by simp; omega
          unfold Lib.decodeGo
          rw [if_neg h1, ← Lib.decodeL_drop, List.drop_zero, hext, Lib.decodeL_drop, ← hc, ← hwd]
        have hT1 : Lib.Utf8Tabs 1 2 W1 := by
          have k0 : W1.heap[1]? = w.heap[1]? := hnx1.keep 1 (by omega) (by omega)
          have k1 : W1.heap[2]? = w.heap[2]? := hnx1.keep 2 (by omega) (by omega)
          refine ⟨fun c hc => ?_, fun i hi => ⟨?_, ?_⟩⟩
          · have := hT.1 c hc
            simp only [World.cell?, k0] at this ⊢; exact this
          · have := (hT.2 i hi).1
            simp only [World.cell?, k1] at this ⊢; exact this
          · have := (hT.2 i hi).2
            simp only [World.cell?, k1] at this ⊢; exact this
        have cD := Any.utf8_DecodeRuneInString Tryd.lays197 (s.extract pos s.size) W1 hT1
        rw [hgo] at cD
        go_wp2_with (fail)
        refine Calls.mono cD ?_
        rintro e w2 ⟨rfl, hbw⟩
        simp only []
        go_at_K
        have hnx2 := hnx1.below hbl hbw
        obtain ⟨f, rfl⟩ : ∃ f, fuel = f + 1 := ⟨fuel - 1, by omega⟩
        by_cases hw2 : wd < 2
        · have e : R = none := by
            have := HS.out
            rw [this, runesN_step hc hwd hp, if_pos ⟨rfl, hw2⟩]; rfl
          subst e
          have hw2' : (wd : Int) < 2 := by omega
          go_wp2
          exact ⟨rfl, ⟨_, hnx2⟩, _, rfl⟩
        · have hit3 : w2.heap[w.heap.size]? = some (.stringIter s (pos + wd)) := (hbw.block _ (Array.getElem?_eq_some_iff.1 hit2).1).trans hit2
          have hinc := inc_walk b (v + cnt) (.int .i64 pos) (.int .i32 65533) w2 hnx2.box
          have hw2' : ¬ (wd : Int) < 2 := by omega
          go_wp2_with (fail)
          refine hinc.mono ?_
          rintro e w' ⟨rfl, rfl⟩
          simp only []
          go_at_K
          try go_wp2
          obtain ⟨g1, g2, g9003⟩ := setCell_box hnx2.box (.int .i64 (wrap64 (v + cnt + 1)))
          have hit4 := (g2 w.heap.size (by omega)).trans hit3
          have hw64 : wrap64 (v + cnt + 1) = v + ((cnt + 1 : Nat) : Int) := by (have : wrap64 (v + cnt + 1) = v + cnt + 1 := by unfold wrap64; omega); rw [this]; push_cast; omega
          refine ⟨⟨pos + wd, f, cnt + 1, hit4, by rw [hw64]; exact hnx2.set _, ?_, by omega, by omega, by omega⟩, ?_⟩
          · have := HS.out
            show R = _
            rw [this, runesN_step hc hwd hp, if_neg (by omega)]
            cases runesN s f (pos + wd) <;> simp; omega
          · rw [iterPos_of hit4, hpos0]; omega
      · have hbad' : ((c : Int) == 65533) = false := by simp; omega
        go_wp2_with (fail)
        refine hinc.mono ?_
        rintro e w' ⟨rfl, rfl⟩
        simp only []
        go_at_K
        try go_wp2
        obtain ⟨g1, g2, g9003⟩ := setCell_box hbox1 (.int .i64 (wrap64 (v + cnt + 1)))
        have hit3 := (g2 w.heap.size (by omega)).trans hit2
        have hw64 : wrap64 (v + cnt + 1) = v + ((cnt + 1 : Nat) : Int) := by (have : wrap64 (v + cnt + 1) = v + cnt + 1 := by unfold wrap64; omega); rw [this]; push_cast; omega
        refine ⟨⟨pos + wd, fuel - 1, cnt + 1, hit3, by rw [hw64]; exact hnx1.set _, ?_, by omega, by omega, by omega⟩, ?_⟩
        · have := HS.out
          show R = _
          rw [this]
          obtain ⟨f, rfl⟩ : ∃ f, fuel = f + 1 := ⟨fuel - 1, by omega⟩
          rw [runesN_step hc hwd hp, if_neg (by omega), Nat.add_sub_cancel]
          cases runesN s f (pos + wd) <;> simp; omega
        · rw [iterPos_of hit3, hpos0]; omega
    · have hnext : ∀ ty, (Instr.next (.pointer (some ⟨w.heap.size, 0, none⟩)) true ty).run Tryd.prog wr = _ := fun ty => Lib.run_next_end_at wr w.heap.size s pos ty hit hp
      have e : R = some cnt := by
        have := HS.out
        rw [this, runesN_end s hp]; simp
      subst e
      go_wp2
      go_end0
      exact ⟨hnx, rfl⟩
theorem catch_panicking (b : Nat) (x : Value) (u : Value) (older : List PanicEntry) (w : World) (hb : w.heap[b]? = some (.cells #[.bool false] 4 (0, 0))) :
    CallsD Tryd.prog 179 #[.pointer (some ⟨b, 0, none⟩)] (.panicking ({ v := .iface 199 u, recovered := false } :: older)) w fun e u' w' =>
      e = .returned (.tuple #[]) ∧ u' = .panicking ({ v := .iface 199 u, recovered := true } :: older) ∧ w' = (w.setCell ⟨b, 0, none⟩ (.bool true)).setCell ⟨b, 0, none⟩ (.bool false) := by
  have h1 : w.cell? ⟨b, 0, none⟩ = some (.bool false) := by simp [World.cell?, hb]
  have h2 : w.frozen? ⟨b, 0, none⟩ = false := by simp [World.frozen?, hb]
  refine callsD_of_wpS Tryd.func179 rfl fun c₀ cs hu => ?_
  apply wpS_seq
  apply wpS_region
  simp [wpOpsS, go_sem, recoverD, hu, Tryd.ntmps179, Exit.thenS]
  apply wpS_seq
  apply wpS_region
  simp [wpOpsS, go_sem, Exit.thenS]
  refine wpS_cond (t := true) (by simp [Act.eval, Array.replicate]) ?_
  simp only [if_true]
  apply wpS_seq
  apply wpS_region
  have h88 := Tryd.underlying199
  have hta : ∀ (w : World), (Instr.typeAssert (.iface 199 u) 20 199 true).run Tryd.prog w = .ok (.tuple #[u, .bool true]) w := fun w => by
    simp [Instr.typeAssert, Sem.run_bind, run_underlying h88, Result.andThen, Sem.run_pure]
  simp [wpOpsS, go_sem, hta, h1, h2, Exit.thenS]
  apply wpS_region
  simp [wpOpsS, go_sem, h1, h2, bodyPostS, results, Tryd.results179]
theorem catch_idle (b : Nat) (w : World) :
    CallsD Tryd.prog 179 #[.pointer (some ⟨b, 0, none⟩)] .returning w fun e u' w' => e = .returned (.tuple #[]) ∧ u' = .returning ∧ w' = w := by
  have hnn : ∀ w, (binOp .neq 20 .nilIface .nilIface).run Tryd.prog w = .ok (.bool false) w := fun w => Lib.run_neq_nil_nil w Tryd.underlying20
  refine callsD_of_wpS Tryd.func179 rfl fun c₀ cs hu => ?_
  apply wpS_seq
  apply wpS_region
  simp [wpOpsS, go_sem, recoverD, hu, Tryd.ntmps179, Exit.thenS]
  apply wpS_seq
  apply wpS_region
  simp [wpOpsS, go_sem, hnn, Exit.thenS]
  refine wpS_cond (t := false) (by simp [Act.eval, Array.replicate]) ?_
  simp only [Bool.false_eq_true, if_false]
  refine wpS_of_wp (wp_skip ?_)
  cases c₀
  simp_all [bodyPostS, results, Tryd.results179]
theorem Utf8Tabs.alloc {w : World} (hT : Lib.Utf8Tabs 1 2 w) (h : 3 ≤ w.heap.size) (o : Obj) : Lib.Utf8Tabs 1 2 (w.alloc o) := by
  have hb : Below w.heap.size w (w.alloc o) := (Below.refl _ _).alloc (Nat.le_refl _) o
  have k0 := hb.block 1 (by omega)
  have k1 := hb.block 2 (by omega)
  refine ⟨fun c hc => ?_, fun i hi => ⟨?_, ?_⟩⟩
  · have := hT.1 c hc
    simp only [World.cell?, k0] at this ⊢; exact this
  · have := (hT.2 i hi).1
    simp only [World.cell?, k1] at this ⊢; exact this
  · have := (hT.2 i hi).2
    simp only [World.cell?, k1] at this ⊢; exact this
theorem through_walk (s : ByteArray) (w : World) (b : Nat) (v : Int) (hb : w.heap[b]? = some (.cells #[.int .i64 v] 3 (0, 0))) (h2 : 3 ≤ b) (hv : 0 ≤ v) (hvs : v + s.size < 9223372036854775808) (hT : Lib.Utf8Tabs 1 2 w) (R : Option Nat) (hR : runesN s s.size 0 = R) :
    Calls Tryd.prog 169 #[.string s, .func (.func 170) #[] #[.pointer (some ⟨b, 0, none⟩)]] w fun e w' => ∃ v', Nx w w' b v' ∧ e = .returned (.bool R.isSome) ∧ ∀ n, R = some n → v' = v + n := by
  have hbl : b < w.heap.size := (Array.getElem?_eq_some_iff.1 hb).1
  obtain ⟨W1, hW1⟩ : ∃ W1, W1 = w.alloc (.cells #[.bool false] 4 (0, 0)) := ⟨_, rfl⟩
  have hbelow : Below w.heap.size w W1 := by rw [hW1]; exact (Below.refl _ _).alloc (Nat.le_refl _) _
  have hb1 : W1.heap[b]? = some (.cells #[.int .i64 v] 3 (0, 0)) := (hbelow.block b hbl).trans hb
  have hT1 : Lib.Utf8Tabs 1 2 W1 := by rw [hW1]; exact Utf8Tabs.alloc hT (by omega) _
  have hok : W1.heap[w.heap.size]? = some (.cells #[.bool false] 4 (0, 0)) := by rw [hW1]; exact World.alloc_heap_new w _
  have hsz1 : w.heap.size < W1.heap.size := (Array.getElem?_eq_some_iff.1 hok).1
  have hE := each_walk s W1 b v hb1 h2 hv hvs hT1 R hR
  have hmf : ∀ (fn : Fn) (first cap : Array Value) (w : World), (Instr.makeFunc fn first cap).run Tryd.prog w = .ok (.func fn first cap) w := fun _ _ _ _ => rfl
  go_enter_defers Tryd.func169, Tryd.ntmps169
  go_wp2_with (fail)
  rw [hW1] at hE
  refine hE.mono ?_
  rintro e w2 ⟨v', hn, he⟩
  have hok2 : w2.heap[w.heap.size]? = some (.cells #[.bool false] 4 (0, 0)) := (hn.keep _ (hW1 ▸ hsz1) (by omega)).trans (hW1 ▸ hok)
  have hnx : Nx w w2 b v' := by
    subst hW1
    exact ⟨hn.os, hn.tape, hn.output, Nat.le_trans hbelow.size hn.size, fun c hc hne => (hn.keep c (Nat.lt_of_lt_of_le hc hbelow.size) hne).trans (hbelow.block c hc), hn.box⟩
  have hset : ∀ (w3 : World) (y : Value), Nx w w3 b v' → w3.heap[w.heap.size]? = some (.cells #[y] 4 (0, 0)) → ∀ z, Nx w (w3.setCell ⟨w.heap.size, 0, none⟩ z) b v' ∧ (w3.setCell ⟨w.heap.size, 0, none⟩ z).heap[w.heap.size]? = some (.cells #[z] 4 (0, 0)) := by
    intro w3 y h3 h4 z
    obtain ⟨g1, g2, g9003⟩ := setCell_box h4 z
    exact ⟨⟨h3.os, h3.tape, h3.output, by rw [g9003]; exact h3.size, fun c hc hne => (g2 c (by omega)).trans (h3.keep c hc hne), (g2 b (by omega)).trans h3.box⟩, g1⟩
  cases R with
  | none =>
    obtain ⟨x, rfl⟩ := he
    simp only []
    refine leaves_cons (f := 179) (args := #[.pointer (some ⟨w.heap.size, 0, none⟩)]) (by simp) (by simp [go_sem]) ?_
    refine (catch_panicking w.heap.size x x [] _ hok2).mono ?_
    rintro e u' w'' ⟨rfl, rfl, rfl⟩
    obtain ⟨n1, b1⟩ := hset w2 _ hnx hok2 (.bool true)
    obtain ⟨n2, b2⟩ := hset _ _ n1 b1 (.bool false)
    have c2 : ((w2.setCell ⟨w.heap.size, 0, none⟩ (.bool true)).setCell ⟨w.heap.size, 0, none⟩ (.bool false)).cell? ⟨w.heap.size, 0, none⟩ = some (.bool false) := by simp [World.cell?, b2]
    simp [Leaves, settle, results, Tryd.results169, go_sem, c2]
    exact ⟨v', n2⟩
  | some n =>
    obtain ⟨rfl, rfl⟩ := he
    simp only []
    rename_i hk1 hk2
    have c1 : w2.cell? ⟨w.heap.size, 0, none⟩ = some (.bool false) := by simp [World.cell?, hok2]
    have f1 : w2.frozen? ⟨w.heap.size, 0, none⟩ = false := by simp [World.frozen?, hok2]
    obtain ⟨n1, b1⟩ := hset w2 _ hnx hok2 (.bool true)
    have c2 : (w2.setCell ⟨w.heap.size, 0, none⟩ (.bool true)).cell? ⟨w.heap.size, 0, none⟩ = some (.bool true) := by simp [World.cell?, b1]
    apply hk2
    go_wp2
    refine leaves_cons (f := 179) (args := #[.pointer (some ⟨w.heap.size, 0, none⟩)]) (by simp) (by simp [go_sem]) ?_
    refine (catch_idle w.heap.size _).mono ?_
    rintro e u' w'' ⟨rfl, rfl, rfl⟩
    simp [Leaves, settle, results, Tryd.results169, go_sem, c2]
    exact n1
set_option maxRecDepth 100000 in
theorem runes_walk (s : ByteArray) (w : World) (h2 : 3 ≤ w.heap.size) (hvs : s.size < 9223372036854775808) (hT : Lib.Utf8Tabs 1 2 w) (R : Option Nat) (hR : runesN s s.size 0 = R) :
    Calls Tryd.prog 148 #[.string s] w fun e w' => e = .returned (.int .i64 (runesI R)) ∧ Below w.heap.size w w' := by
  have hok : (w.alloc (.cells #[.int .i64 0] 3 (0, 0))).heap[w.heap.size]? = some (.cells #[.int .i64 0] 3 (0, 0)) := World.alloc_heap_new w _
  have hbelow : Below w.heap.size w (w.alloc (.cells #[.int .i64 0] 3 (0, 0))) := (Below.refl _ _).alloc (Nat.le_refl _) _
  have hE := through_walk s _ w.heap.size 0 hok h2 (by omega) (by omega) (Utf8Tabs.alloc hT h2 _) R hR
  have hset := (setCell_box hok (.int .i64 0)).1
  have hmf : ∀ (fn : Fn) (first cap : Array Value) (w : World), (Instr.makeFunc fn first cap).run Tryd.prog w = .ok (.func fn first cap) w := fun _ _ _ _ => rfl
  go_enter Tryd.func148, Tryd.ntmps148
  go_wp2_with (fail)
  refine hE.mono ?_
  rintro e w2 ⟨v', hn, rfl, hv⟩
  have hbel : Below w.heap.size w w2 := ⟨hn.os, hn.tape, hn.output, Nat.le_trans hbelow.size hn.size, fun c hc => (hn.keep c (Nat.lt_of_lt_of_le hc hbelow.size) (by omega)).trans (hbelow.block c hc)⟩
  have c1 : w2.cell? ⟨w.heap.size, 0, none⟩ = some (.int .i64 v') := by simp [World.cell?, hn.box]
  rename_i hk1 hk2
  cases R with
  | none =>
    simp only [Option.isSome_none]
    clear hE hn hT hok hbelow hset hv
    apply hk2
    go_wp2
    try go_wp2
    first | (go_ret; exact ⟨rfl, hbel⟩) | (go_ret2; exact ⟨rfl, hbel⟩) | (go_end0; exact ⟨rfl, hbel⟩) | (simp [bodyPost, results, Tryd.results148, Act.put]; exact hbel)
  | some n =>
    obtain rfl : v' = (n : Int) := by have := hv n rfl; omega
    simp only [Option.isSome_some]
    clear hE hn hT hok hbelow hset hv
    apply hk2
    go_wp2
    try go_wp2
    first | (go_ret; exact ⟨rfl, hbel⟩) | (go_ret2; exact ⟨rfl, hbel⟩) | (go_end0; exact ⟨rfl, hbel⟩) | (simp [bodyPost, results, Tryd.results148, Act.put]; exact hbel)
end Go.Proofs.YtgaabjmbnomimaaDoor
namespace Go.Proofs.YtgaabjmbnomimaaDoor
open Go Go.Ev
def Kw (w : World) : Prop := Lib.Utf8Tabs 1 2 w ∧ 3 ≤ w.heap.size
theorem tabs_of {w0 w : World} (h : Lib.Utf8Tabs 1 2 w0) (k0 : w.heap[1]? = w0.heap[1]?) (k1 : w.heap[2]? = w0.heap[2]?) : Lib.Utf8Tabs 1 2 w := by
  refine ⟨fun c hc => ?_, fun i hi => ⟨?_, ?_⟩⟩
  · have := h.1 c hc
    simp only [World.cell?, k0] at this ⊢; exact this
  · have := (h.2 i hi).1
    simp only [World.cell?, k1] at this ⊢; exact this
  · have := (h.2 i hi).2
    simp only [World.cell?, k1] at this ⊢; exact this
theorem based_tabs {w : World} {A : Nat → Prop} {bl : Bl} {H : Hp} (hcx : CtxOk Tryd.prog Kw bl.cx) (hH : RepH w A bl H) : Kw w := by
  obtain ⟨w0, h1, h2⟩ := hH.base
  obtain ⟨h3, h4⟩ := hcx.base w0 h1
  have hlt := hH.alt 2 (h2 2 (by omega)).1
  exact ⟨tabs_of h3 (h2 1 (by omega)).2 (h2 2 (by omega)).2, by omega⟩
theorem sound148 {args vals : List V} {H H' : Hp} (h : x148 args H = some (vals, H')) : Enter Tryd.prog 148 ∧ Sound Tryd.prog Kw 148 args H vals H' := by
  unfold x148 at h
  split at h
  case h_2 => simp at h
  rename_i s
  split at h <;> simp only [Option.some.injEq, Prod.mk.injEq, reduceCtorEq] at h
  rename_i hs
  obtain ⟨rfl, rfl⟩ := h
  refine ⟨fun args w => ?_, fun w A bl us hcx hH hargs => ?_⟩
  · simp only [callFunc, Sem.run_bind, run_program, Result.andThen_ok, Tryd.func148]
    rfl
  · obtain ⟨hl, hr⟩ := hargs
    match us, hl, hr with
    | [u], _, hr =>
      have hu := (hr 0 _ u rfl rfl).str_inv
      subst hu
      obtain ⟨hT, h2⟩ := based_tabs hcx hH
      have hsz : (⟨s.toArray⟩ : ByteArray).size = s.length := by simp [ByteArray.size]
      have hw := runes_walk ⟨s.toArray⟩ w h2 (by rw [hsz]; omega) hT _ rfl
      refine hw.mono ?_
      rintro e w' ⟨rfl, hb⟩
      have g : Grow w w' := ⟨hb.os, hb.tape, hb.output, hb.size, fun b hb' => hb.block b hb'⟩
      obtain ⟨q1, q2⟩ := grow hH g (N := fun _ => False) (fun b hb => hb.elim)
      refine ⟨_, bl, [_], rfl, ⟨rfl, fun j x u hj hu => ?_⟩, q1, q2, g.evo (fun b hb => .inl hb) (fun b hb => hb.elim .inl False.elim)⟩
      cases j with
      | zero =>
        simp at hj hu
        subst hj; subst hu
        rw [hsz]
        exact .int _ _
      | succ j => simp at hj
end Go.Proofs.YtgaabjmbnomimaaDoor
namespace Go.Proofs.YtgaabjmbnomimaaDoor
open Go Go.Ev Go.Sort
theorem compareBytes_eq : ∀ a b : List UInt8, Lib.compareBytes a b = cmpB a b
  | [], [] => rfl
  | [], _ :: _ => rfl
  | _ :: _, [] => rfl
  | a :: x, b :: y => by
    rw [Lib.compareBytes, compareBytes_eq x y]
    simp only [cmpB, Op.bytesLess, Bool.or_eq_true, decide_eq_true_eq, Bool.and_eq_true, beq_iff_eq]
    by_cases h1 : a < b
    · simp [h1]
    · by_cases h2 : b < a
      · have h3 : a ≠ b := fun e => by subst e; exact h1 h2
        simp [h1, h2, h3]
      · have e : a = b := by
          rw [UInt8.lt_iff_toNat_lt] at h1 h2
          exact UInt8.toNat_inj.1 (by omega)
        subst e
        simp [h1]
theorem compare_walk (s t : Bys) (w : World) : Calls Tryd.prog 75 #[.string ⟨s.toArray⟩, .string ⟨t.toArray⟩] w fun e w' => e = .returned (.int .i64 (cmpB s t)) ∧ w' = w := by
  have h := Any.strings_Compare Tryd.lays106 ⟨s.toArray⟩ ⟨t.toArray⟩ w
  rw [show (ByteArray.mk s.toArray).data.toList = s from rfl, show (ByteArray.mk t.toArray).data.toList = t from rfl, compareBytes_eq] at h
  exact h
set_option maxHeartbeats 2000000 in
theorem order_walk (p q : Bys) (v1 v2 : Value) (W : World) : Calls Tryd.prog 74 #[.agg #[.string ⟨p.toArray⟩, v1], .agg #[.string ⟨q.toArray⟩, v2]] W fun e w' => e = .returned (.int .i64 (cmpB p q)) ∧ ∃ n os', w' = grow (W.drewN n) os' := by
  have h1 := fun W' => compare_walk p q W'
  obtain ⟨s, hs⟩ : ∃ s, s = cmpB p q := ⟨_, rfl⟩
  simp only [← hs] at h1 ⊢
  clear hs
  go_enter Tryd.func74, Tryd.ntmps74
  go_wp2_with (go_at_call 75; refine (h1 _).mono ?_; rintro e w' ⟨rfl, rfl⟩)
  all_goals go_ret
  all_goals exact ⟨rfl, 0, _, by rw [alloc_eq_grow, alloc_eq_grow, grow_grow]; rfl⟩
theorem enter73 : Enter Tryd.prog 73 := fun args w => by
  simp only [callFunc, Sem.run_bind, run_program, Result.andThen_ok, Tryd.func73]
  rfl
theorem enter74 (args : Array Value) (w : World) : (callFunc 74 args).run Tryd.prog w = .ok (.enter 74 args) w := by
  simp only [callFunc, Sem.run_bind, run_program, Result.andThen_ok, Tryd.func74]
  rfl
theorem mixedOk : Tryd.prog.follows .mixedOrders = true := by kernel_rfl
noncomputable def E1 : Env := E0 (fun _ => none) (fun _ _ _ => none)
theorem empty73 : callN E1 40 73 [.buf 0 0 0 0, .fn 74 []] [.mem 2 0 []] = some ([], [.mem 2 0 []]) := by kernel_rfl
def encT (vs : Nat → Value) (t : Tg) : List Value := [.string ⟨t.1.toArray⟩, vs t.2]
theorem sort_walk (vs : Nat → Value) (hv : ∀ n, (vs n).oneCell' = true) (zs : List Tg) (b d cap : Nat) (w : World) (hH : HoldsK (encT vs) 2 w b d zs.toArray) (hb : b < w.heap.size) (hz : zs.length < 4611686018427387904) :
    Calls Tryd.prog 73 #[.slice (some ⟨b, d, none⟩) zs.length cap, .func (.func 74) #[] #[]] w fun e w' => e = .returned (.tuple #[]) ∧ ∃ n os, w' = sortWorldK (encT vs) 2 w b d n (sortT zs).toArray os := by
  have h := AnyQ.slices_SortFunc_eq Tryd.sortE 2 Tryd.isAgg65 Tryd.sizeOf65 (encT vs) (fun _ => rfl) (fun x v h => by
      simp only [encT, List.mem_cons, List.not_mem_nil, or_false] at h
      rcases h with rfl | rfl
      · rfl
      · exact hv _) (fun x y : Tg => cmpB x.1 y.1) swoT 74 #[] b d cap zs.toArray w enter74 (fun _ _ _ _ x y => order_walk x.1 y.1 _ _ _) hH hb (by simpa using hz)
  have e1 : zs.toArray.size = zs.length := by simp
  have e2 : (sortT zs).toArray = pdq (ltOf fun x y : Tg => cmpB x.1 y.1) zs.toArray 0 zs.toArray.size (Lib.bitLen zs.toArray.size) true true := by
    rw [e1]; rfl
  rw [e2]
  rw [e1] at h ⊢
  exact h
theorem flat_getT (vs : Nat → Value) (l : List Tg) (k j : Nat) (hk : k < l.length) (hj : j < 2) : (flatK (encT vs) 2 l.toArray)[k * 2 + j]! = (encT vs l[k])[j]! := by
  rw [get_flatK (encT vs) 2 l.toArray (k * 2 + j) (by simp; omega)]
  have e1 : (k * 2 + j) / 2 = k := by omega
  have e2 : (k * 2 + j) % 2 = j := by omega
  rw [e1, e2]
  have : l.toArray[k]! = l[k] := by simp [hk]
  rw [this]
theorem isEnts_at {xs : List (List C)} (h : isEnts xs = true) {x : List C} (hx : x ∈ xs) : ∃ p y, x = [.str p, .sl 5 none false y] := by
  have := List.all_eq_true.1 h x hx
  have h2 := shape_ok this
  exact ⟨_, _, h2.symm⟩
set_option maxHeartbeats 1000000 in
theorem sound73 {args vals : List V} {H H' : Hp} (h : x73 args H = some (vals, H')) : Enter Tryd.prog 73 ∧ Sound Tryd.prog Kw 73 args H vals H' := by
  unfold x73 at h
  split at h
  case h_2 => simp at h
  rename_i len xs
  split at h <;> simp only [Option.some.injEq, Prod.mk.injEq, reduceCtorEq] at h
  rename_i hc
  obtain ⟨hi, rfl, hlt⟩ := hc
  obtain ⟨rfl, rfl⟩ := h
  refine ⟨enter73, ?_⟩
  by_cases hne : xs = []
  · subst hne
    have e : sortX [] = [] := List.length_eq_zero_iff.1 (sortX_len [] (by simp))
    rw [e]
    exact (callN_sound (K := Kw) (draw_ok mixedOk) (env_ok fun g f args H vals H' h => by cases h) 40 _ _ _ _ _ empty73).2
  intro w A bl us hcx hH hargs
  obtain ⟨hl, hr⟩ := hargs
  match us, hl, hr with
  | [u, v], _, hr =>
    have hv := hr 1 _ v rfl rfl
    have hv' : v = .func (.func 74) #[] #[] := by
      cases hv with
      | fn _ _ vs hs _ =>
        have : vs = #[] := by apply Array.eq_empty_of_size_eq_zero; simpa using hs.symm
        rw [this]
    subst hv'
    have hu := hr 0 _ u rfl rfl
    cases hu with
    | buf _ _ _ _ a l cap k1 k2 k3 =>
      obtain ⟨j1, rfl, ⟨j2, j3, j4⟩, j5⟩ := k3 2 xs rfl
      have hpos : 0 < xs.length := List.length_pos_iff.2 hne
      obtain ⟨b, d, n, h1, rfl, h3, h4⟩ := j5 (by omega)
      obtain ⟨o1, o2, o3⟩ := hH.obj 0 _ rfl
      obtain ⟨arr, t, g1, g2, g3⟩ := o3 b d h1
      have hblt : b < w.heap.size := (hH.lt 0 b d ⟨_, rfl, rfl⟩ h1).1
      obtain ⟨vs, hvs⟩ : ∃ vs : Nat → Value, vs = fun m => if m < xs.length then (arr[d + m * 2 + 1]?).getD .nilFunc else .nilFunc := ⟨_, rfl⟩
      have hvr : ∀ m, (hm : m < xs.length) → arr[d + m * 2 + 1]? = some (vs m) ∧ ∀ c, xs[m][1]? = some c → RepC w A c (vs m) := fun m hm => by
        have hlen := o1 xs[m] (List.getElem_mem hm)
        obtain ⟨u, u1, u2⟩ := g3 m 1 xs[m] (xs[m][1]'(by omega)) (List.getElem?_eq_getElem hm) (List.getElem?_eq_getElem _)
        have : vs m = u := by rw [hvs]; simp only [if_pos hm, u1, Option.getD_some]
        refine ⟨by rw [this]; exact u1, fun c hc => ?_⟩
        rw [List.getElem?_eq_getElem (by omega), Option.some.injEq] at hc
        rw [this, ← hc]; exact u2
      have hv1 : ∀ m, (vs m).oneCell' = true := fun m => by
        by_cases hm : m < xs.length
        · have hlen := o1 xs[m] (List.getElem_mem hm)
          exact repC_one ((hvr m hm).2 _ (List.getElem?_eq_getElem (show 1 < xs[m].length by omega)))
        · rw [hvs]; simp only [if_neg hm]; rfl
      have htl := tagE_len 0 xs
      have hpt : ∀ m, (hm : m < xs.length) → ∃ y, xs[m] = [.str (xs[m].headD .pnil).st, y] := fun m hm => by
        obtain ⟨p, y, e⟩ := isEnts_at hi (List.getElem_mem hm)
        exact ⟨_, by rw [e]; rfl⟩
      have hcell : ∀ t, t < (tagE 0 xs).length * 2 → arr[d + t]? = some ((flatK (encT vs) 2 (tagE 0 xs).toArray)[t]!) := fun t ht => by
        have hk : t / 2 < xs.length := by omega
        have hj : t % 2 < 2 := by omega
        have e : t / 2 * 2 + t % 2 = t := by omega
        conv => rhs; rw [← e, flat_getT vs _ _ _ (by omega) hj, tagE_get 0 xs _ hk]
        obtain ⟨y, hy⟩ := hpt _ hk
        rcases Nat.lt_or_ge (t % 2) 1 with h0 | h0
        · have e0 : t % 2 = 0 := by omega
          obtain ⟨u, u1, u2⟩ := g3 (t / 2) 0 xs[t / 2] (.str (xs[t / 2].headD .pnil).st) (List.getElem?_eq_getElem hk) (by rw [hy]; rfl)
          rw [e0, show d + t = d + t / 2 * 2 + 0 by omega, u1]
          cases u2; rfl
        · have e0 : t % 2 = 1 := by omega
          rw [e0, show d + t = d + t / 2 * 2 + 1 by omega, (hvr _ hk).1, Nat.zero_add]; rfl
      have hHolds : HoldsK (encT vs) 2 w b d (tagE 0 xs).toArray := fun j hj => by
        have hj' : j < (tagE 0 xs).length * 2 := by simpa using hj
        refine ⟨?_, by simp [World.frozen?, g1]⟩
        rw [cell_of_heap g1, hcell j hj']
        rfl
      have hs := sort_walk vs hv1 (tagE 0 xs) b d cap w hHolds hblt (by omega)
      rw [htl] at hs
      have e0 : (⟨b, d + 0 * 2, none⟩ : Addr) = ⟨b, d, none⟩ := by simp
      rw [e0]
      refine Calls.mono hs ?_
      rintro e w' ⟨rfl, nn, os, hw'⟩
      have hspec := sortT_spec (tagE 0 xs) (by omega)
      have hlen : (sortT (tagE 0 xs)).length = xs.length := by rw [hspec.1.length_eq, htl]
      have hmem : ∀ t ∈ sortT (tagE 0 xs), ∃ h : t.2 < xs.length, t.1 = (xs[t.2].headD .pnil).st := fun t ht => tagE_mem (hspec.1.mem_iff.1 ht)
      have hX : sortX xs = (sortT (tagE 0 xs)).map fun t => xs.getD t.2 [] := rfl
      rw [hX]
      generalize sortT (tagE 0 xs) = ss at *
      have hfs : (flatK (encT vs) 2 ss.toArray).size = xs.length * 2 := by simp [hlen]
      replace hw' : w' = Go.Sort.grow (putRow id (Sort.ahead w nn) b d (flatK (encT vs) 2 ss.toArray)) os := hw'
      have hw1 : (putRow id (Sort.ahead w nn) b d (flatK (encT vs) 2 ss.toArray)).heap[b]? = some (.cells (putCells id d (flatK (encT vs) 2 ss.toArray) arr) t (0, 0)) := by
        simp [putRow, mapBlock, Array.getElem?_modify, g1, onCells]
      have hk1 : ∀ c, c ≠ b → (putRow id (Sort.ahead w nn) b d (flatK (encT vs) 2 ss.toArray)).heap[c]? = w.heap[c]? := fun c hc => by
        simp [putRow, mapBlock, Array.getElem?_modify, Ne.symm hc]
      have hsz1 : (putRow id (Sort.ahead w nn) b d (flatK (encT vs) 2 ss.toArray)).heap.size = w.heap.size := by simp
      have hos2 : (putRow id (Sort.ahead w nn) b d (flatK (encT vs) 2 ss.toArray)).os = w.os ∧ (putRow id (Sort.ahead w nn) b d (flatK (encT vs) 2 ss.toArray)).tape = w.tape ∧ (putRow id (Sort.ahead w nn) b d (flatK (encT vs) 2 ss.toArray)).output = w.output := ⟨rfl, rfl, rfl⟩
      generalize putRow id (Sort.ahead w nn) b d (flatK (encT vs) 2 ss.toArray) = W2 at hw1 hk1 hsz1 hw' hos2
      subst hw'
      have hps : (putCells id d (flatK (encT vs) 2 ss.toArray) arr).size = arr.size := by simp [putCells]
      have hml : (ss.map fun t => xs.getD t.2 []).length = xs.length := by rw [List.length_map, hlen]
      have hle := le_set (o' := O.mem 2 0 (ss.map fun t => xs.getD t.2 [])) hH (i0 := 0) rfl rfl h1 g1 hps hw1 hk1 (fun z e xs' he => by
        simp only [O.mem.injEq] at he
        obtain ⟨rfl, rfl, rfl⟩ := he
        exact ⟨0, xs, rfl, Nat.le_refl _, fun _ => by rw [hml]⟩) (fun cs he => by cases he)
      have hat : ∀ k, (hk : k < ss.length) → (ss.map fun t => xs.getD t.2 [])[k]? = some (xs[(ss[k]).2]'(hmem _ (List.getElem_mem hk)).1) := fun k hk => by
        rw [List.getElem?_map, List.getElem?_eq_getElem hk, Option.map_some, List.getD_eq_getElem?_getD, List.getElem?_eq_getElem (hmem _ (List.getElem_mem hk)).1]; rfl
      have hrep := rep_set hH (i0 := 0) rfl rfl h1 hle hk1 hsz1 (by
        refine ⟨fun cs hcs => ?_, fun hn => (by rw [h1] at hn; cases hn), fun b' d' hb' => ?_⟩
        · obtain ⟨k, hk, rfl⟩ := List.getElem_of_mem hcs
          have hk2 : k < ss.length := by simpa using hk
          have := hat k hk2
          rw [List.getElem?_eq_getElem hk, Option.some.injEq] at this
          rw [this]; exact o1 _ (List.getElem_mem _)
        · rw [h1] at hb'
          simp only [Option.some.injEq, Prod.mk.injEq] at hb'
          obtain ⟨rfl, rfl⟩ := hb'
          refine ⟨_, t, hw1, by rw [hps, hml]; exact g2, fun k j cs x hk hj => ?_⟩
          have hk' : k < ss.length := by have := (List.getElem?_eq_some_iff.1 hk).1; simpa using this
          rw [hat k hk', Option.some.injEq] at hk
          obtain ⟨hm, hmp⟩ := hmem _ (List.getElem_mem hk')
          subst hk
          have hj2 : j < 2 := by have := (List.getElem?_eq_some_iff.1 hj).1; rw [o1 _ (List.getElem_mem hm)] at this; exact this
          have hlt2 : d + k * 2 + j < arr.size := by omega
          have hval : (putCells id d (flatK (encT vs) 2 ss.toArray) arr)[d + k * 2 + j]? = some ((encT vs ss[k])[j]!) := by
            simp only [putCells, Array.getElem?_mapIdx, Array.getElem?_eq_getElem hlt2, Option.map_some, Option.some.injEq]
            rw [if_pos ⟨by omega, by rw [hfs]; omega⟩]
            have e5 : d + k * 2 + j - d = k * 2 + j := by omega
            rw [e5]
            exact flat_getT vs ss k j hk' hj2
          refine ⟨_, hval, ?_⟩
          have hC : ∀ c, A c → W2.heap[c]? = w.heap[c]? := fun c hc => hk1 c fun e => (hH.lt 0 b d ⟨_, rfl, rfl⟩ h1).2 (e ▸ hc)
          rcases Nat.lt_or_ge j 1 with h0 | h0
          · obtain rfl : j = 0 := by omega
            obtain ⟨y, hy⟩ := hpt _ hm
            rw [hy] at hj
            simp only [List.getElem?_cons_zero, Option.some.injEq] at hj
            rw [← hj, ← hmp]
            exact .str _
          · obtain rfl : j = 1 := by omega
            exact ((hvr _ hm).2 _ hj).mono hC fun _ h => h) hos2
      have g : Grow W2 (Go.Sort.grow W2 os) := ⟨rfl, rfl, rfl, by simp, fun c hc => heap_grow_old W2 os hc⟩
      have hset : ([O.mem 2 0 xs] : Hp).set 0 (O.mem 2 0 (ss.map fun t => xs.getD t.2 [])) = [O.mem 2 0 (ss.map fun t => xs.getD t.2 [])] := rfl
      rw [hset] at hrep hle
      obtain ⟨q1, q2⟩ := Ev.grow hrep g (N := fun _ => False) (fun b hb => hb.elim)
      refine ⟨_, bl, [], rfl, ⟨rfl, fun j x u hj => by simp at hj⟩, q1, hle.trans q2, ?_⟩
      refine Evo.trans (A1 := A) (L1 := Liv bl [O.mem 2 0 (ss.map fun t => xs.getD t.2 [])]) ?_ (g.evo (fun b hb => .inl hb) (fun b hb => hb.elim .inl False.elim))
      exact ⟨hos2.1, hos2.2.1, hos2.2.2, by omega, fun c hc hL => hk1 c fun e => hL (.inl ⟨0, d, ⟨_, rfl, rfl⟩, e ▸ h1⟩), fun c hc => .inl (liv_set (i0 := 0) (o := .mem 2 0 xs) rfl rfl hc), fun c hc => .inl hc⟩
end Go.Proofs.YtgaabjmbnomimaaDoor
namespace Go.Proofs.YtgaabjmbnomimaaDoor
open Go Go.Ev
theorem drawOk : DrawOk Tryd.prog Kw := draw_ok mixedOk
theorem envOk : EnvOk Tryd.prog Kw E := env_ok fun g f args H vals H' h1 h2 => by
  unfold xt at h1
  split at h1 <;> simp only [Option.some.injEq, reduceCtorEq] at h1
  · subst h1; exact sound148 h2
  · subst h1; exact sound149 h2
  · subst h1; exact sound118 h2
  · subst h1; exact sound122 h2
  · subst h1; exact sound72 h2
  · subst h1; exact sound73 h2
end Go.Proofs.YtgaabjmbnomimaaDoor
namespace Go.Proofs.YtgaabjmbnomimaaDoor
open Go Go.Ev
set_option maxRecDepth 100000
theorem rdI {t : TypeId} (ht : Tryd.prog.underlying t = some (.int .i64)) {n : Nat} {xs : List C} (h : Rd Tryd.prog n t xs) : ∃ v, xs = [.int .i64 v] := by
  cases n with
  | zero => exact h.elim
  | succ n =>
    simp only [Rd, ht] at h
    obtain ⟨v, rfl, _⟩ := h
    exact ⟨v, rfl⟩
theorem rdS {t : TypeId} (ht : Tryd.prog.underlying t = some .string) {n : Nat} {xs : List C} (h : Rd Tryd.prog n t xs) : ∃ v, xs = [.str v] := by
  cases n with
  | zero => exact h.elim
  | succ n =>
    simp only [Rd, ht] at h
    obtain ⟨v, rfl, _⟩ := h
    exact ⟨v, rfl⟩
theorem rdL {α : Type} {t e : TypeId} {z : Nat} (ht : Tryd.prog.underlying t = some (.slice e)) (hz : Tryd.prog.cellsOf e = z) (enc : α → List C) (he : ∀ {n : Nat} {xs : List C}, Rd Tryd.prog n e xs → ∃ a, xs = enc a) {n : Nat} {xs : List C} (h : Rd Tryd.prog n t xs) :
    ∃ l : List α, xs = [.sl z none false (l.map enc)] ∧ l.length ≤ maxLen := by
  cases n with
  | zero => exact h.elim
  | succ n =>
    simp only [Rd, ht] at h
    obtain ⟨ys, rfl, hq, hy⟩ := h
    have : ∃ l : List α, ys = l.map enc := by
      clear hq
      induction ys with
      | nil => exact ⟨[], rfl⟩
      | cons y r ih =>
        obtain ⟨l, rfl⟩ := ih (fun z hz => hy z (by simp [hz]))
        obtain ⟨c, rfl⟩ := he (hy y (by simp))
        exact ⟨c :: l, rfl⟩
    obtain ⟨l, rfl⟩ := this
    exact ⟨l, by rw [hz], by simpa using hq⟩
theorem rdVal {n : Nat} {xs : List C} (h : Rd Tryd.prog n 100 xs) : ∃ v : Val, xs = ev v := by
  cases n with
  | zero => exact h.elim
  | succ n =>
    rw [Rd, Tryd.underlying100] at h
    obtain ⟨parts, hl, rfl, hp⟩ := h
    match parts, hl with
    | [p, q, r], _ =>
      obtain ⟨k, rfl⟩ := rdI Tryd.underlying98 (hp 0 _ p rfl rfl)
      obtain ⟨m, rfl⟩ := rdI Tryd.underlying3 (hp 1 _ q rfl rfl)
      obtain ⟨s, rfl⟩ := rdS Tryd.underlying9 (hp 2 _ r rfl rfl)
      exact ⟨⟨k, m, s⟩, rfl⟩
theorem rdRow {n : Nat} {xs : List C} (h : Rd Tryd.prog n 102 xs) : ∃ r : Row, xs = er r := by
  cases n with
  | zero => exact h.elim
  | succ n =>
    rw [Rd, Tryd.underlying102] at h
    obtain ⟨parts, hl, rfl, hp⟩ := h
    match parts, hl with
    | [p, q, r], _ =>
      obtain ⟨x, rfl⟩ := rdI Tryd.underlying3 (hp 0 _ p rfl rfl)
      obtain ⟨y, rfl⟩ := rdI Tryd.underlying3 (hp 1 _ q rfl rfl)
      obtain ⟨v, rfl⟩ := rdVal (hp 2 _ r rfl rfl)
      exact ⟨⟨x, y, v⟩, rfl⟩
theorem rdRows {n : Nat} {xs : List C} (h : Rd Tryd.prog n 29 xs) : ∃ l : List Row, xs = [.sl 5 none false (rows l)] ∧ l.length ≤ maxLen :=
  rdL Tryd.underlying29 (by kernel_rfl) er rdRow h
theorem arC {α : Type} {t : TypeId} (enc : α → C) (ha : aggAt Tryd.prog t = false) (he : ∀ {n : Nat} {xs : List C}, Rd Tryd.prog n t xs → ∃ a, xs = [enc a]) {v : V} {vl : List V} {ts : List TypeId} (h : Args Tryd.prog (t :: ts) (v :: vl)) : (∃ a, v = .c (enc a)) ∧ Args Tryd.prog ts vl := by
  obtain ⟨⟨n, xs, h1, e0⟩, h2⟩ := h
  subst e0
  obtain ⟨a, rfl⟩ := he h1
  refine ⟨⟨a, ?_⟩, h2⟩
  unfold argV
  rw [ha]
theorem arA {α : Type} {t : TypeId} (enc : α → List C) (ha : aggAt Tryd.prog t = true) (he : ∀ {n : Nat} {xs : List C}, Rd Tryd.prog n t xs → ∃ a, xs = enc a) {v : V} {vl : List V} {ts : List TypeId} (h : Args Tryd.prog (t :: ts) (v :: vl)) : (∃ a, v = .agg ((enc a).map .c)) ∧ Args Tryd.prog ts vl := by
  obtain ⟨⟨n, xs, h1, e0⟩, h2⟩ := h
  subst e0
  obtain ⟨a, rfl⟩ := he h1
  refine ⟨⟨a, ?_⟩, h2⟩
  unfold argV
  rw [ha]
theorem ar9 {v : V} {vl : List V} {ts : List TypeId} (h : Args Tryd.prog (9 :: ts) (v :: vl)) : (∃ s : List UInt8, v = .c (.str s)) ∧ Args Tryd.prog ts vl := arC (fun n => .str n) (by kernel_rfl) (fun h => rdS Tryd.underlying9 h) h
theorem args1 {a : TypeId} {vl : List V} (h : Args Tryd.prog [a] vl) : ∃ v, vl = [v] := by
  cases vl with
  | nil => exact h.elim
  | cons v r => cases r with
    | nil => exact ⟨v, rfl⟩
    | cons _ _ => exact h.2.elim
theorem args2 {a b : TypeId} {vl : List V} (h : Args Tryd.prog [a, b] vl) : ∃ v w, vl = [v, w] := by
  cases vl with
  | nil => exact h.elim
  | cons v r => obtain ⟨w, rfl⟩ := args1 (a := b) h.2; exact ⟨v, w, rfl⟩
theorem args3 {a b c : TypeId} {vl : List V} (h : Args Tryd.prog [a, b, c] vl) : ∃ v w x, vl = [v, w, x] := by
  cases vl with
  | nil => exact h.elim
  | cons v r => obtain ⟨w, x, rfl⟩ := args2 (a := b) (b := c) h.2; exact ⟨v, w, x, rfl⟩
theorem args4 {a b c d : TypeId} {vl : List V} (h : Args Tryd.prog [a, b, c, d] vl) : ∃ v w x y, vl = [v, w, x, y] := by
  cases vl with
  | nil => exact h.elim
  | cons v r => obtain ⟨w, x, y, rfl⟩ := args3 (a := b) (b := c) (c := d) h.2; exact ⟨v, w, x, y, rfl⟩
theorem kw_of {l : List (String × DataW Unit)} {W : World} (hA : ("unicode/utf8.acceptRanges", Rows.laid_unicode_utf8_acceptRanges) ∈ l) (hF : ("unicode/utf8.first", Rows.laid_unicode_utf8_first) ∈ l) (h : laidMet Tryd.prog l W) : Kw W := by
  have ha : Rows.laid_unicode_utf8_acceptRanges = Lib.acceptData := by kernel_rfl
  have hf : Rows.laid_unicode_utf8_first = Lib.firstData := Pinned.utf8First_eq
  have hU : Lib.Utf8Tabs 1 2 W :=
    utf8Tabs_of_readsT (ρ := Tryd.lays197_ren) { Tryd.lays197 with } ⟨by kernel_rfl, by kernel_rfl, by kernel_rfl, by kernel_rfl, by kernel_rfl, by kernel_rfl, by kernel_rfl⟩ (hf ▸ Lib.laidMet.reads h hF) (ha ▸ Lib.laidMet.reads h hA)
  refine ⟨hU, ?_⟩
  have h1 := (hU.2 0 (by omega)).1
  rcases Nat.lt_or_ge 2 W.heap.size with h2 | h2
  · exact h2
  · exfalso
    simp only [World.cell?] at h1
    rw [Array.getElem?_eq_none h2] at h1
    simp at h1
def firstCells : Obj → Obj
  | .cells _ t frozen => .cells (Lib.firstTab.map (Value.int .u8)).toArray t frozen
  | o => o
def acceptCells : Obj → Obj
  | .cells _ t frozen => .cells (((List.range 16).flatMap fun i => [Value.int .u8 (Lib.accLo i), Value.int .u8 (Lib.accHi i)])).toArray t frozen
  | o => o
noncomputable def laidWorld (os : Os) : World :=
  { World.holding Tryd.prog os ⟨#[], #[], []⟩ with heap := ((World.holding Tryd.prog os ⟨#[], #[], []⟩).heap.modify 1 firstCells).modify 2 acceptCells }
theorem own : ownKnob Tryd.prog.godebug = none := by kernel_rfl
end Go.Proofs.YtgaabjmbnomimaaDoor
namespace Go.Proofs.YtgaabjmbnomimaaDoor
open Go Go.Ev
set_option maxRecDepth 100000
theorem rdSl {t : TypeId} (ht : Tryd.prog.underlying t = some .string) {n : Nat} {xs : List C} (h : Rd Tryd.prog n t xs) : ∃ v : List UInt8, xs = [.str v] ∧ v.length ≤ maxLen := by
  cases n with
  | zero => exact h.elim
  | succ n =>
    simp only [Rd, ht] at h
    exact h
theorem rdT : ∀ (n : Nat) (xs : List C), (Rd Tryd.prog n 31 xs → ∃ t : Nd, xs = t.enc ∧ lensT t = true) ∧ (Rd Tryd.prog n 23 xs → ∃ ks : List Nd, xs = [.sl 3 none false (encL ks)] ∧ lensL ks = true ∧ ks.length ≤ maxLen)
  | 0, xs => ⟨fun h => h.elim, fun h => h.elim⟩
  | n + 1, xs => by
    refine ⟨fun h => ?_, fun h => ?_⟩
    · rw [Rd, Tryd.underlying31] at h
      obtain ⟨parts, hl, rfl, hp⟩ := h
      match parts, hl with
      | [p, q, r], _ =>
        obtain ⟨s, rfl, h1⟩ := rdSl Tryd.underlying9 (hp 0 _ p rfl rfl)
        obtain ⟨rs, rfl, h2⟩ := rdRows (hp 1 _ q rfl rfl)
        obtain ⟨ks, rfl, h3, h4⟩ := (rdT n r).2 (hp 2 _ r rfl rfl)
        refine ⟨.node s rs ks, by rw [Nd.enc]; rfl, ?_⟩
        have hm : maxLen ≤ 9223372036854775807 := by decide
        rw [lensT, h3]
        simp only [Bool.and_eq_true, decide_eq_true_eq]
        exact ⟨⟨⟨by omega, by omega⟩, by omega⟩, trivial⟩
    · rw [Rd, Tryd.underlying23] at h
      obtain ⟨ys, rfl, hq, hy⟩ := h
      have hz : Tryd.prog.cellsOf 31 = 3 := by kernel_rfl
      have : ∃ l : List Nd, ys = encL l ∧ lensL l = true := by
        clear hq
        induction ys with
        | nil => exact ⟨[], rfl, rfl⟩
        | cons y r ih =>
          obtain ⟨l, rfl, hl⟩ := ih (fun z hz => hy z (by simp [hz]))
          obtain ⟨t, rfl, ht⟩ := (rdT n y).1 (hy y (by simp))
          exact ⟨t :: l, by rw [encL], by rw [lensL, ht, hl]; rfl⟩
      obtain ⟨l, rfl, hl⟩ := this
      exact ⟨l, by rw [hz], hl, by simpa using hq⟩
structure Lt where
  t : Nd
  ok : lensT t = true
theorem rd31 {n : Nat} {xs : List C} (h : Rd Tryd.prog n 31 xs) : ∃ x : Lt, xs = x.t.enc := by
  obtain ⟨t, h1, h2⟩ := (rdT n xs).1 h
  exact ⟨⟨t, h2⟩, h1⟩
theorem enc_VT (t : Nd) : V.agg (t.enc.map .c) = VT t := by rw [Nd.enc_eq]; rfl
theorem ar31 {v : V} {vl : List V} {ts : List TypeId} (h : Args Tryd.prog (31 :: ts) (v :: vl)) : (∃ x : Lt, v = VT x.t) ∧ Args Tryd.prog ts vl := by
  obtain ⟨⟨x, h1⟩, h2⟩ := arA (fun x : Lt => x.t.enc) (by kernel_rfl) rd31 h
  exact ⟨⟨x, by rw [h1, enc_VT]⟩, h2⟩
end Go.Proofs.YtgaabjmbnomimaaDoor
namespace Go.Proofs.YtgaabjmbnomimaaDoor
open Go Go.Ev
theorem bl_ge {e p q : List UInt8} (h : Op.bytesLess e p = false) (k : Op.bytesLess p q = false) : Op.bytesLess e q = false := by
  cases c : Op.bytesLess e q with
  | false => rfl
  | true =>
    cases d : Op.bytesLess q p with
    | true => rw [bl_trans c d] at h; cases h
    | false => rw [bl_total _ _ k d, c] at h; cases h
theorem look_in {l : List Ent} {e : Ent} (h : Rise l) (he : e ∈ l) : look l e.1 = e.2 := by
  induction l with
  | nil => cases he
  | cons a l ih =>
    rw [Rise, List.pairwise_cons] at h
    rw [look]
    rcases List.mem_cons.1 he with rfl | he
    · rw [if_pos rfl]
    · rw [if_neg (bl_ne (h.1 e he)), ih h.2 he]
theorem look_ex {l : List Ent} {q : List UInt8} (h : look l q ≠ []) : ∃ e ∈ l, e.1 = q := by
  induction l with
  | nil => exact absurd rfl h
  | cons a l ih =>
    rw [look] at h
    split at h
    · rename_i c; exact ⟨a, by simp, c⟩
    · obtain ⟨e, h1, h2⟩ := ih h; exact ⟨e, by simp [h1], h2⟩
abbrev Pne (x : List Ent) : Prop := ∀ e ∈ x, e.1 ≠ []
abbrev Rne (x : List Ent) : Prop := ∀ e ∈ x, e.2 ≠ []
structure SP (x y z : List Ent) (S : List Sd) : Prop where
  rise : S.Pairwise fun s t => Op.bytesLess s.p t.p = true
  ne : ∀ s ∈ S, s.p ≠ []
  a : ∀ s ∈ S, s.a = look x s.p
  b : ∀ s ∈ S, s.b = look y s.p
  c : ∀ s ∈ S, s.c = look z s.p
  mem : ∀ s ∈ S, ∃ e, (e ∈ x ∨ e ∈ y ∨ e ∈ z) ∧ e.1 = s.p
  all : ∀ e, e ∈ x ∨ e ∈ y ∨ e ∈ z → ∃ s ∈ S, s.p = e.1
structure Gd (x : List Ent) : Prop where
  rise : Rise x
  pne : Pne x
  rne : Rne x
  len : ∀ e ∈ x, e.1.length ≤ 24
  right : ∀ e ∈ x, right e.2 = true
theorem Gd.nil : Gd [] := ⟨.nil, by simp, by simp, by simp, by simp⟩
mutual
theorem entT_len24 : ∀ (t : Nd) (n : Nat), okT t n = true → ∀ e ∈ entT t, e.1.length ≤ n
  | .node s rs ks, n, h, e, he => by
    obtain ⟨g1, g2, g3, g4, g5⟩ := okT_iff.1 h
    simp only [Nd.lab_node, Nd.rows_node, Nd.kids_node] at g2 g5
    rw [entT] at he
    rcases List.mem_append.1 he with he | he
    · split at he
      · cases he
      · simp only [List.mem_singleton] at he; subst he; exact g2
    · obtain ⟨d, hd, rfl⟩ := List.mem_map.1 he
      have := entL_len24 ks _ g5 d hd
      simp only [List.length_append]; omega
theorem entL_len24 : ∀ (l : List Nd) (n : Nat), kidsOk l n → ∀ e ∈ entL l, e.1.length ≤ n
  | [], _, _, e, he => by simp [entL] at he
  | t :: r, n, h, e, he => by
    rw [entL] at he
    rcases List.mem_append.1 he with he | he
    · exact entT_len24 t n (h.1 t (by simp)) e he
    · exact entL_len24 r n (kidsOk_sub h (List.sublist_cons_self _ _)) e he
end
theorem gd_ent {t : Nd} (h : okR t = true) : Gd (entR t) :=
  have hk := (okR_iff.1 h).2.2
  ⟨entR_rise h, entL_ne_nil hk, entL_ne _, entL_len24 _ _ hk, entL_right _ _ hk⟩
theorem entP_R {t : Nd} (h : okR t = true) : entP t = entR t := by rw [entP, h]; rfl
theorem gd_entP (t : Nd) : Gd (entP t) := by
  rw [entP]
  cases h : okR t with
  | false => exact Gd.nil
  | true => exact gd_ent h
theorem getR_P (t : Nd) (q : Bys) : getR t q = look (entP t) q := by
  rw [getR_look, entP]
  cases okR t <;> rfl
end Go.Proofs.YtgaabjmbnomimaaDoor
namespace Go.Proofs.YtgaabjmbnomimaaDoor
open Go Go.Ev
-- cse
def s134 : CSpec := fun a h => match a, h with
  | [.agg [.c (.str s), .c (.sl 5 rn rt xs), .c (.sl 3 kn kt ys)], .c (.str q), .fn 82 []], [] => some ([], [.fn 166 [.ptr 1 0 0 0, .ptr 0 0 0 0, .ptr 2 0 0 0]], [.box [.c (.str s), .c (.sl 5 rn rt xs), .c (.sl 3 kn kt ys)], .box [.c (.str q)], .box [.fn 82 []]])
  | _, _ => none
noncomputable abbrev p166 : Par := par E sh (ctOf [(82, s82), (68, s68), (134, s134)]) 166 4 4
abbrev s166_0 (q : Bys) (s : Bys) (rn : OBo) (rt : Bool) (xs : LLC) (kn : OBo) (kt : Bool) (ys : LLC) (r : List (List V)) (b : Bool) (s5 : Bys) (i33 : Int) (i34 : Int) : Fr × Hp := ([(3, V.ptr 2 0 0 0), (4, V.ptr 4 0 0 0), (5, V.c (C.str s5)), (32, V.c (C.sl 3 kn kt ys)), (33, V.c (C.int IntKind.i64 i33)), (34, V.c (C.int IntKind.i64 i34))], [O.box [V.c (C.str q)], O.box [V.c (C.str s), V.c (C.sl 5 rn rt xs), V.c (C.sl 3 kn kt ys)], O.box [V.fn 82 []], O.yo r.tail b, O.box [V.yl 3]])
abbrev s166_0v (q : Bys) (s : Bys) (rn : OBo) (rt : Bool) (xs : LLC) (kn : OBo) (kt : Bool) (ys : LLC) (r : List (List V)) (b : Bool) (s5 : Bys) (i33 : Int) (i34 : Int) : Fr × Hp := ([(3, V.ptr 2 0 0 0), (4, V.ptr 4 0 0 0), (5, V.c (C.str s5)), (32, V.c (C.sl 3 kn kt ys)), (33, V.c (C.int IntKind.i64 i33)), (34, V.c (C.int IntKind.i64 i34))], [O.box [V.c (C.str q)], O.box [V.c (C.str s), V.c (C.sl 5 rn rt xs), V.c (C.sl 3 kn kt ys)], O.box [V.fn 82 []], O.yo r b, O.box [V.yl 3]])
noncomputable abbrev b166_0v : Code := loopAt (codeOf E (166)) 0
abbrev s166_0v_0 (q : Bys) (s : Bys) (rn : OBo) (rt : Bool) (xs : LLC) (kn : OBo) (kt : Bool) (ys : LLC) (r : List (List V)) (b : Bool) (s5 : Bys) (i33 : Int) (i34 : Int) (sh5 : Bys) (nlh5 : OBo) (th5 : Bool) (xsh5 : LLC) (nlh5_1 : OBo) (th5_1 : Bool) (xsh5_1 : LLC) : Fr × Hp := ([(3, V.ptr 2 0 0 0), (4, V.ptr 4 0 0 0), (5, V.c (C.str s5)), (32, V.c (C.sl 3 kn kt ys)), (33, V.c (C.int IntKind.i64 i33)), (34, V.c (C.int IntKind.i64 i34)), (41, V.fn 166 [V.ptr 6 0 0 0, V.ptr 5 0 0 0, V.ptr 7 0 0 0])], [O.box [V.c (C.str q)], O.box [V.c (C.str s), V.c (C.sl 5 rn rt xs), V.c (C.sl 3 kn kt ys)], O.box [V.fn 82 []], O.yo r b, O.box [V.yl 3], O.box [V.c (C.str sh5), V.c (C.sl 5 nlh5 th5 xsh5), V.c (C.sl 3 nlh5_1 th5_1 xsh5_1)], O.box [V.c (C.str s5)], O.box [V.fn 82 []]])
noncomputable abbrev b166_0v_0 : Code := loopAt b166_0v 0
abbrev g166_0v_0 (q : Bys) (s : Bys) (rn : OBo) (rt : Bool) (xs : LLC) (kn : OBo) (kt : Bool) (ys : LLC) (r : List (List V)) (b : Bool) (s5 : Bys) (i33 : Int) (i34 : Int) : Fr × Hp := ([(3, V.ptr 2 0 0 0), (4, V.ptr 4 0 0 0), (5, V.c (C.str s5)), (32, V.c (C.sl 3 kn kt ys)), (33, V.c (C.int IntKind.i64 i33)), (34, V.c (C.int IntKind.i64 i34)), (41, V.fn 166 [V.ptr 6 0 0 0, V.ptr 5 0 0 0, V.ptr 7 0 0 0])], [O.box [V.c (C.str q)], O.box [V.c (C.str s), V.c (C.sl 5 rn rt xs), V.c (C.sl 3 kn kt ys)], O.box [V.fn 82 []], O.yo r b, O.box [V.yl 3], O.gone, O.gone, O.gone])
abbrev x166_0v_0x0 (q : Bys) (s : Bys) (rn : OBo) (rt : Bool) (xs : LLC) (kn : OBo) (kt : Bool) (ys : LLC) (r : List (List V)) (b : Bool) (s5 : Bys) (i33 : Int) (i34 : Int) (p : Bys) (zs : LLC) (nlh8 : OBo) : Ex × Fr × Hp := (Ex.ret, [(3, V.ptr 2 0 0 0), (4, V.ptr 4 0 0 0), (5, V.c (C.str s5)), (32, V.c (C.sl 3 kn kt ys)), (33, V.c (C.int IntKind.i64 i33)), (34, V.c (C.int IntKind.i64 i34)), (41, V.fn 166 [V.ptr 6 0 0 0, V.ptr 5 0 0 0, V.ptr 7 0 0 0])], [O.box [V.c (C.str q)], O.box [V.c (C.str s), V.c (C.sl 5 rn rt xs), V.c (C.sl 3 kn kt ys)], O.box [V.fn 82 []], O.yo r.tail b, O.box [V.yl 3], O.gone, O.gone, O.gone, O.box [V.c (C.str p), V.c (C.sl 5 nlh8 false zs)]])
abbrev x166_0v_0n (q : Bys) (s : Bys) (rn : OBo) (rt : Bool) (xs : LLC) (kn : OBo) (kt : Bool) (ys : LLC) (r : List (List V)) (b : Bool) (s5 : Bys) (i33 : Int) (i34 : Int) : Ex × Fr × Hp := (Ex.nrm, [(3, V.ptr 2 0 0 0), (4, V.ptr 4 0 0 0), (5, V.c (C.str s5)), (32, V.c (C.sl 3 kn kt ys)), (33, V.c (C.int IntKind.i64 i33)), (34, V.c (C.int IntKind.i64 i34)), (41, V.fn 166 [V.ptr 6 0 0 0, V.ptr 5 0 0 0, V.ptr 7 0 0 0])], [O.box [V.c (C.str q)], O.box [V.c (C.str s), V.c (C.sl 5 rn rt xs), V.c (C.sl 3 kn kt ys)], O.box [V.fn 82 []], O.yo r b, O.box [V.yl 3], O.gone, O.gone, O.gone])
abbrev x166_0vx0 (q : Bys) (s : Bys) (rn : OBo) (rt : Bool) (xs : LLC) (kn : OBo) (kt : Bool) (ys : LLC) (r : List (List V)) (b : Bool) (s5 : Bys) (i33 : Int) (i34 : Int) (p : Bys) (zs : LLC) (nlh8 : OBo) : Ex × Fr × Hp := (Ex.ret, [(3, V.ptr 2 0 0 0), (4, V.ptr 4 0 0 0), (5, V.c (C.str s5)), (32, V.c (C.sl 3 kn kt ys)), (33, V.c (C.int IntKind.i64 i33)), (34, V.c (C.int IntKind.i64 i34)), (41, V.fn 166 [V.ptr 6 0 0 0, V.ptr 5 0 0 0, V.ptr 7 0 0 0])], [O.box [V.c (C.str q)], O.box [V.c (C.str s), V.c (C.sl 5 rn rt xs), V.c (C.sl 3 kn kt ys)], O.box [V.fn 82 []], O.yo r.tail b, O.box [V.yl 3], O.gone, O.gone, O.gone, O.box [V.c (C.str p), V.c (C.sl 5 nlh8 false zs)]])
abbrev x166_0vx1 (q : Bys) (s : Bys) (rn : OBo) (rt : Bool) (xs : LLC) (kn : OBo) (kt : Bool) (ys : LLC) (r : List (List V)) (b : Bool) (s5 : Bys) (i33 : Int) (i34 : Int) : Ex × Fr × Hp := (Ex.exit 0, [(3, V.ptr 2 0 0 0), (4, V.ptr 4 0 0 0), (5, V.c (C.str s5)), (32, V.c (C.sl 3 kn kt ys)), (33, V.c (C.int IntKind.i64 i33)), (34, V.c (C.int IntKind.i64 i34)), (35, V.c (C.bool false))], [O.box [V.c (C.str q)], O.box [V.c (C.str s), V.c (C.sl 5 rn rt xs), V.c (C.sl 3 kn kt ys)], O.box [V.fn 82 []], O.yo r b, O.box [V.yl 3]])
theorem t166_0v_0 (q : Bys) (s : Bys) (rn : OBo) (rt : Bool) (xs : LLC) (kn : OBo) (kt : Bool) (ys : LLC) (r : List (List V)) (b : Bool) (s5 : Bys) (i33 : Int) (i34 : Int) (p : Bys) (zs : LLC) : p166.rts b166_0v_0 ([V.agg [V.c (C.str p), V.c (C.sl 5 none false zs)]]) (g166_0v_0 q s rn rt xs kn kt ys r b s5 i33 i34) = (Tr.chk (yoHd r [V.agg [V.c (C.str p), V.c (C.sl 5 none false zs)]]) (Tr.br (!yoAns r b) (Tr.leaf (R.x (x166_0v_0x0 q s rn rt xs kn kt ys r b s5 i33 i34 p zs (none)))) (Tr.leaf (R.s (g166_0v_0 q s rn rt xs kn kt ys (r.tail) b s5 i33 i34))))) := by kernel_rfl
theorem k166_0v_0n (q : Bys) (s : Bys) (rn : OBo) (rt : Bool) (xs : LLC) (kn : OBo) (kt : Bool) (ys : LLC) (r : List (List V)) (b : Bool) (s5 : Bys) (i33 : Int) (i34 : Int) : p166.lkx b166_0v 0 (x166_0v_0n q s rn rt xs kn kt ys r b s5 i33 i34) = (Tr.leaf (R.s (s166_0v q s rn rt xs kn kt ys r b s5 i33 (IntKind.i64.wrap (i34 + 1))))) := by kernel_rfl
theorem k166_0v_0x0 (q : Bys) (s : Bys) (rn : OBo) (rt : Bool) (xs : LLC) (kn : OBo) (kt : Bool) (ys : LLC) (r : List (List V)) (b : Bool) (s5 : Bys) (i33 : Int) (i34 : Int) (p : Bys) (zs : LLC) (nlh8 : OBo) : p166.lkx b166_0v 0 (x166_0v_0x0 q s rn rt xs kn kt ys r b s5 i33 i34 p zs nlh8) = (Tr.leaf (R.x (x166_0vx0 q s rn rt xs kn kt ys r b s5 i33 i34 p zs nlh8))) := by kernel_rfl
theorem t166_0v (q : Bys) (s : Bys) (rn : OBo) (rt : Bool) (xs : LLC) (kn : OBo) (kt : Bool) (ys : LLC) (r : List (List V)) (b : Bool) (s5 : Bys) (i33 : Int) (i34 : Int) : p166.lts b166_0v (s166_0v q s rn rt xs kn kt ys r b s5 i33 i34) = (Tr.br (decide (i34 < i33)) (Tr.chk (decide (0 ≤ i34)) (Tr.chk true (Tr.chk (decide (i34.toNat < ys.length)) (Tr.chk (shOk [Sk.str, Sk.sl 5, Sk.sl 3] (ys.getD i34.toNat [])) (Tr.rs 0 (s166_0v_0 q s rn rt xs kn kt ys r b s5 i33 i34 (((ys.getD i34.toNat []).headD C.pnil).st) (none) false (((ys.getD i34.toNat []).tail.headD C.pnil).xs) (none) false (((ys.getD i34.toNat []).tail.tail.headD C.pnil).xs))))))) (Tr.leaf (R.x (x166_0vx1 q s rn rt xs kn kt ys r b s5 i33 i34)))) := by kernel_rfl
theorem k166_0vx0 (q : Bys) (s : Bys) (rn : OBo) (rt : Bool) (xs : LLC) (kn : OBo) (kt : Bool) (ys : LLC) (r : List (List V)) (b : Bool) (s5 : Bys) (i33 : Int) (i34 : Int) (p : Bys) (zs : LLC) (nlh8 : OBo) : p166.fkx 0 (x166_0vx0 q s rn rt xs kn kt ys r b s5 i33 i34 p zs nlh8) = (Tr.leaf (R.out [] [O.box [V.c (C.str q)], O.box [V.c (C.str s), V.c (C.sl 5 rn rt xs), V.c (C.sl 3 kn kt ys)], O.box [V.fn 82 []], O.yo r.tail b])) := by kernel_rfl
theorem k166_0vx1 (q : Bys) (s : Bys) (rn : OBo) (rt : Bool) (xs : LLC) (kn : OBo) (kt : Bool) (ys : LLC) (r : List (List V)) (b : Bool) (s5 : Bys) (i33 : Int) (i34 : Int) : p166.fkx 0 (x166_0vx1 q s rn rt xs kn kt ys r b s5 i33 i34) = (Tr.leaf (R.out [] [O.box [V.c (C.str q)], O.box [V.c (C.str s), V.c (C.sl 5 rn rt xs), V.c (C.sl 3 kn kt ys)], O.box [V.fn 82 []], O.yo r b])) := by kernel_rfl
theorem t166 (q : Bys) (s : Bys) (rn : OBo) (rt : Bool) (xs : LLC) (kn : OBo) (kt : Bool) (ys : LLC) (r : List (List V)) (b : Bool) : p166.ft ([V.yl 3, V.ptr 0 0 0 0, V.ptr 1 0 0 0, V.ptr 2 0 0 0]) ([O.box [V.c (C.str q)], O.box [V.c (C.str s), V.c (C.sl 5 rn rt xs), V.c (C.sl 3 kn kt ys)], O.box [V.fn 82 []], O.yo r b]) = (Tr.chk (decide (q.length + s.length < 4294967296)) (Tr.br false (Tr.leaf (R.out [] [O.box [V.c (C.str q)], O.box [V.c (C.str s), V.c (C.sl 5 rn rt xs), V.c (C.sl 3 kn kt ys)], O.box [V.fn 82 []], O.yo r b])) (Tr.br (decide (0 < (↑xs.length : Int))) (Tr.chk (decide (xs.length < 4294967296)) (Tr.chk (decide (rn ≠ some true ∨ xs = [])) (Tr.chk (yoHd r [V.agg [V.c (C.str (q ++ s)), V.c (C.sl 5 none false xs)]]) (Tr.br (!yoAns r b) (Tr.leaf (R.out [] [O.box [V.c (C.str q)], O.box [V.c (C.str s), V.c (C.sl 5 rn rt xs), V.c (C.sl 3 kn kt ys)], O.box [V.fn 82 []], O.yo r.tail b])) (Tr.ls 0 (s166_0 q s rn rt xs kn kt ys r b (q ++ s) ((↑ys.length : Int)) (0))))))) (Tr.ls 0 (s166_0v q s rn rt xs kn kt ys r b (q ++ s) ((↑ys.length : Int)) (0)))))) := by kernel_rfl
end Go.Proofs.YtgaabjmbnomimaaDoor
namespace Go.Proofs.YtgaabjmbnomimaaDoor
open Go Go.Ev
theorem want_take {es u : List (List V)} {b : Bool} (hw : Want es u b) : ∃ m, u = es.take m ∧ m ≤ es.length ∧ (b = false → m = es.length) ∧ (b = true → 1 ≤ m) := by
  rcases hw with ⟨h1, h2⟩ | ⟨h1, h2, h3⟩
  · exact ⟨es.length, by rw [List.take_length]; exact h2, Nat.le_refl _, fun _ => rfl, fun h => by rw [h1] at h; cases h⟩
  · exact ⟨u.length, List.prefix_iff_eq_take.1 h3, h3.length_le, fun h => (by rw [h1] at h; cases h), fun _ => List.length_pos_iff.2 h2⟩
def ownW (q : Bys) (rs : List Row) : List Ent := match rs with | [] => [] | r :: s => [(q, r :: s)]
theorem walkT_eq (al : List UInt8 → Bool) (q s : Bys) (rs : List Row) (ks : List Nd) : walkT al q (.node s rs ks) = cond (al (q ++ s)) (ownW (q ++ s) rs ++ walkL al (q ++ s) ks) [] := by
  cases rs <;> simp [walkT, ownW]
theorem walkL_app (al : List UInt8 → Bool) (q : Bys) (a b : List Nd) : walkL al q (a ++ b) = walkL al q a ++ walkL al q b := by
  induction a with
  | nil => rfl
  | cons t r ih => simp [walkL, ih]
theorem walkL_take (al : List UInt8 → Bool) (q : Bys) {l : List Nd} {k : Nat} (hk : k < l.length) : walkL al q (l.take (k + 1)) = walkL al q (l.take k) ++ walkT al q l[k] := by
  rw [List.take_succ_eq_append_getElem hk, walkL_app]; simp [walkL]
theorem walkL_take_le (al : List UInt8 → Bool) (q : Bys) (l : List Nd) (k : Nat) : (walkL al q (l.take k)).length ≤ (walkL al q l).length := by
  conv => rhs; rw [← List.take_append_drop k l, walkL_app, List.length_append]
  omega
mutual
theorem eqb_refl : ∀ x : C, x.eqb x = true
  | .int .. | .bool _ | .str _ | .pnil | .inil | .fnil => by simp [C.eqb]
  | .sl z nl t xs => by simp [C.eqb, eqbLL_refl xs]
theorem eqbL_refl : ∀ l : List C, eqbL l l = true
  | [] => by simp [eqbL]
  | x :: r => by simp [eqbL, eqb_refl x, eqbL_refl r]
theorem eqbLL_refl : ∀ l : List (List C), eqbLL l l = true
  | [] => by simp [eqbLL]
  | x :: r => by simp [eqbLL, eqbL_refl x, eqbLL_refl r]
end
theorem eqb_encE (p : Bys) (rs : List Row) : eqbV [V.agg [V.c (C.str p), V.c (C.sl 5 none false (rows rs))]] (encE (p, rs)) = true := by
  simp [encE, eqbV, V.eqb, eqb_refl]
structure At (u : List (List V)) (b : Bool) (m c : Nat) (r : List (List V)) : Prop where
  eq : r = u.drop c
  le : c ≤ m
  lt : b = true → c < m
theorem At.next {es : List (List V)} {u : List (List V)} {b : Bool} {m c : Nat} {r : List (List V)} (hu : u = es.take m) (hm : m ≤ es.length) (hb : b = false → m = es.length) (h : At u b m c r) (hc : c < es.length) :
    c < m ∧ r = es[c] :: u.drop (c + 1) ∧ r.tail = u.drop (c + 1) ∧ ((yoAns r b = true ∧ At u b m (c + 1) r.tail) ∨ (yoAns r b = false ∧ r.tail = [] ∧ b = true)) := by
  have hcm : c < m := by
    cases b with
    | false => have := hb rfl; omega
    | true => exact h.lt rfl
  have hul : u.length = m := by rw [hu, List.length_take]; omega
  have hcu : c < u.length := by omega
  have hd : r = es[c] :: u.drop (c + 1) := by
    rw [h.eq, List.drop_eq_getElem_cons hcu]
    congr 1
    simp only [hu, List.getElem_take]
  have ht : r.tail = u.drop (c + 1) := by rw [hd]; rfl
  refine ⟨hcm, hd, ht, ?_⟩
  unfold yoAns
  cases b with
  | false => exact .inl ⟨by simp, ht, by omega, fun h => by cases h⟩
  | true =>
    by_cases hlast : c + 1 = m
    · right
      have hnil : u.drop (c + 1) = [] := List.drop_of_length_le (by omega)
      rw [ht, hnil]
      exact ⟨by simp, rfl, rfl⟩
    · left
      have hne : (u.drop (c + 1)).isEmpty = false := by
        rw [List.isEmpty_eq_false_iff]
        intro h
        have := congrArg List.length h
        rw [List.length_drop] at this
        simp at this; omega
      rw [ht]
      exact ⟨by simp [hne], rfl, by omega, fun _ => by omega⟩
theorem At.end_ {es : List (List V)} {u : List (List V)} {b : Bool} {m c : Nat} {r : List (List V)} (hu : u = es.take m) (hm : m ≤ es.length) (h : At u b m c r) (hc : c = es.length) : r = [] ∧ b = false := by
  have hbf : b = false := by
    cases b with
    | false => rfl
    | true => have := h.lt rfl; omega
  exact ⟨by rw [h.eq]; exact List.drop_of_length_le (by rw [hu, List.length_take]; omega), hbf⟩
theorem f134 (s : Bys) (rn : OBo) (rt : Bool) (xs : LLC) (kn : OBo) (kt : Bool) (ys : LLC) (q : Bys) : call E 134 [.agg [.c (.str s), .c (.sl 5 rn rt xs), .c (.sl 3 kn kt ys)], .c (.str q), .fn 82 []] [] =
    some ([.fn 166 [.ptr 1 0 0 0, .ptr 0 0 0 0, .ptr 2 0 0 0]], [.box [.c (.str s), .c (.sl 5 rn rt xs), .c (.sl 3 kn kt ys)], .box [.c (.str q)], .box [.fn 82 []]]) := by
  refine call_of (E := E) (sh := sh) (ct := ctOf []) (na := 3) (m := 0) ctOf_nil rfl rfl rfl rfl rfl rfl ?_
  rw [t134]; rfl
theorem s134_ok : CSpecOk E 134 s134 := by
  intro a h cs vals h' he hc
  unfold s134 at he
  split at he <;> simp only [Option.some.injEq, Prod.mk.injEq, reduceCtorEq] at he
  obtain ⟨rfl, rfl, rfl⟩ := he
  exact f134 _ _ _ _ _ _ _ _
def alA (_ : Bys) : Bool := true
def boxK (q s : Bys) (rn : OBo) (rt : Bool) (xs : LLC) (kn : OBo) (kt : Bool) (ys : LLC) : Hp := [.box [.c (.str q)], .box [.c (.str s), .c (.sl 5 rn rt xs), .c (.sl 3 kn kt ys)], .box [.fn 82 []]]
theorem sq166_ok (q s : Bys) (rn : OBo) (rt : Bool) (rs : List Row) (kn : OBo) (kt : Bool) (ks : List Nd) :
    E.seq 166 [.yl 3, .ptr 0 0 0 0, .ptr 1 0 0 0, .ptr 2 0 0 0] (boxK q s rn rt (rows rs) kn kt (encL ks)) = some ((walkT alA q (.node s rs ks)).map encE) := by
  have : sq 166 [.yl 3, .ptr 0 0 0 0, .ptr 1 0 0 0, .ptr 2 0 0 0] (boxK q s rn rt (rows rs) kn kt (encL ks)) = some ((walkT alA q (.node s rs ks)).map encE) := by
    simp only [sq, sq166, boxK, alongP, toRows_rows, decL_enc]; rfl
  exact this
def args166 : List V := [.yl 3, .ptr 0 0 0 0, .ptr 1 0 0 0, .ptr 2 0 0 0]
set_option maxHeartbeats 1000000 in
theorem f166 : ∀ (d : Nat) (q s : Bys) (rn : OBo) (rt : Bool) (rs : List Row) (kn : OBo) (kt : Bool) (ks : List Nd) (n : Nat), depL ks < d → q.length + s.length + n ≤ 24 → kidsOk ks n → right rs = true → (rn ≠ some true ∨ rs = []) →
    ∀ (u : List (List V)) (b : Bool), Want ((walkT alA q (.node s rs ks)).map encE) u b →
    call E 166 args166 (boxK q s rn rt (rows rs) kn kt (encL ks) ++ [.yo u b]) = some ([], boxK q s rn rt (rows rs) kn kt (encL ks) ++ [.yo [] b])
  | 0, _, _, _, _, _, _, _, _, _, h, _, _, _, _, _, _, _ => by omega
  | d + 1, q, s, rn, rt, rs, kn, kt, ks, n, hd, hl, hk, hr, hn, u, b, hw => by
    have hct : (ctOf [(82, s82), (68, s68), (134, s134)]).ok E := ctOf_cons s82_ok (ctOf_cons s68_ok (ctOf_cons s134_ok ctOf_nil))
    refine call_of (E := E) (sh := sh) (ct := ctOf [(82, s82), (68, s68), (134, s134)]) (na := 4) (m := 4) hct rfl rfl rfl rfl rfl rfl ?_
    show p166.fd (p166.ft [.yl 3, .ptr 0 0 0 0, .ptr 1 0 0 0, .ptr 2 0 0 0] [.box [.c (.str q)], .box [.c (.str s), .c (.sl 5 rn rt (rows rs)), .c (.sl 3 kn kt (encL ks))], .box [.fn 82 []], .yo u b]) =
      some (.out [] [.box [.c (.str q)], .box [.c (.str s), .c (.sl 5 rn rt (rows rs)), .c (.sl 3 kn kt (encL ks))], .box [.fn 82 []], .yo [] b])
    rw [t166, encL_length]
    have hkl := okL_len (okL_iff'.2 hk) (by omega)
    have hrl := right_len4 hr
    have hn' : rn ≠ some true ∨ rows rs = [] := hn.imp id fun h => by rw [h]; rfl
    rw [walkT_eq] at hw
    simp only [alA, cond_true] at hw
    obtain ⟨m, hu, hm0, hm1, hm2⟩ := want_take hw
    generalize hes : (ownW (q ++ s) rs ++ walkL alA (q ++ s) ks).map encE = es at *
    have hesl : es.length = (ownW (q ++ s) rs).length + (walkL alA (q ++ s) ks).length := by rw [← hes]; simp
    have at0 : At u b m 0 u := ⟨rfl, Nat.zero_le _, fun h => hm2 h⟩
    -- the kids
    have key : ∀ r : List (List V), At u b m (ownW (q ++ s) rs).length r → p166.fd (Tr.ls 0 (s166_0v q s rn rt (rows rs) kn kt (encL ks) r b (q ++ s) ks.length 0)) =
        some (.out [] [.box [.c (.str q)], .box [.c (.str s), .c (.sl 5 rn rt (rows rs)), .c (.sl 3 kn kt (encL ks))], .box [.fn 82 []], .yo [] b]) := by
      intro r hat
      refine fd_post hct (by kernel_rfl) rfl (list_post (p := p166) hct (b := b166_0v) ks.length (fun k (r : List (List V)) => s166_0v q s rn rt (rows rs) kn kt (encL ks) r b (q ++ s) ks.length k) (fun k r => At u b m ((ownW (q ++ s) rs).length + (walkL alA (q ++ s) (ks.take k)).length) r) _ ?_ ?_ 0 (Nat.zero_le _) r (by simpa [walkL] using hat))
      · intro k r hk2 hat
        have hT := hk.1 _ (List.getElem_mem hk2)
        obtain ⟨g1, g2, g3, g4, g5⟩ := okT_iff.1 hT
        have hkid : depL ks[k].kids < d := by have := depL_kid (List.getElem_mem hk2); omega
        have hnx := walkL_take alA (q ++ s) hk2
        have hle := walkL_take_le alA (q ++ s) ks (k + 1)
        have hesk : ∀ j, (hj : j < (walkT alA (q ++ s) ks[k]).length) → es[(ownW (q ++ s) rs).length + (walkL alA (q ++ s) (ks.take k)).length + j]? = some (encE (walkT alA (q ++ s) ks[k])[j]) := fun j hj => by
          rw [← hes, List.getElem?_map, List.getElem?_append_right (by omega)]
          have e0 : walkL alA (q ++ s) ks = walkL alA (q ++ s) (ks.take (k + 1)) ++ walkL alA (q ++ s) (ks.drop (k + 1)) := by rw [← walkL_app, List.take_append_drop]
          rw [e0, hnx, List.append_assoc, List.getElem?_append_right (by omega), List.getElem?_append_left (by omega)]
          have e1 : (ownW (q ++ s) rs).length + (walkL alA (q ++ s) (ks.take k)).length + j - (ownW (q ++ s) rs).length - (walkL alA (q ++ s) (ks.take k)).length = j := by omega
          rw [e1, List.getElem?_eq_getElem hj]; rfl
        rw [hnx, List.length_append] at hle
        have hin := ranges_post (p := p166) hct (c := b166_0v_0) (gi := 166) (caps := [.ptr 6 0 0 0, .ptr 5 0 0 0, .ptr 7 0 0 0]) (args := args166)
          (s0 := s166_0v_0 q s rn rt (rows rs) kn kt (encL ks) r b (q ++ s) ks.length k ks[k].lab none false (rows ks[k].rows) none false (encL ks[k].kids))
          (h0 := boxK (q ++ s) ks[k].lab none false (rows ks[k].rows) none false (encL ks[k].kids)) (ids := [6, 5, 7]) (by kernel_rfl) (walkT alA (q ++ s) ks[k]) encE rfl (by kernel_rfl)
          (by have := sq166_ok (q ++ s) ks[k].lab none false ks[k].rows none false ks[k].kids; rw [Nd.eta] at this; exact this)
          (fun u' b' hw' => ⟨_, _, f166 d (q ++ s) ks[k].lab none false ks[k].rows none false ks[k].kids (n - ks[k].lab.length) hkid (by rw [List.length_append]; omega) g5 g3 (.inl (by simp)) u' b' (by rw [Nd.eta]; exact hw'), rfl⟩)
          (fun (r : List (List V)) => g166_0v_0 q s rn rt (rows rs) kn kt (encL ks) r b (q ++ s) ks.length k)
          (fun (l : List Ent) r => ∃ j, l = (walkT alA (q ++ s) ks[k]).drop j ∧ j ≤ (walkT alA (q ++ s) ks[k]).length ∧ At u b m ((ownW (q ++ s) rs).length + (walkL alA (q ++ s) (ks.take k)).length + j) r)
          (fun y => (∃ r', At u b m ((ownW (q ++ s) rs).length + (walkL alA (q ++ s) (ks.take (k + 1))).length) r' ∧ p166.ld b166_0v (p166.lkx b166_0v 0 y) = some (R.s (s166_0v q s rn rt (rows rs) kn kt (encL ks) r' b (q ++ s) ks.length ((k + 1 : Nat) : Int)))) ∨
            (∃ x : Ex × Fr × Hp, x.1 ≠ .nrm ∧ p166.fd (p166.fkx 0 x) = some (.out [] [.box [.c (.str q)], .box [.c (.str s), .c (.sl 5 rn rt (rows rs)), .c (.sl 3 kn kt (encL ks))], .box [.fn 82 []], .yo [] b]) ∧ p166.ld b166_0v (p166.lkx b166_0v 0 y) = some (R.x x)))
          (by
            rintro ⟨p, prs⟩ l r ⟨j, hj, hjl, hat⟩
            have hj2 : j < (walkT alA (q ++ s) ks[k]).length := by
              rcases Nat.lt_or_ge j (walkT alA (q ++ s) ks[k]).length with h | h
              · exact h
              · rw [List.drop_of_length_le h] at hj; cases hj
            rw [List.drop_eq_getElem_cons hj2] at hj
            simp only [List.cons.injEq] at hj
            obtain ⟨hj3, rfl⟩ := hj
            have hee := hesk j hj2
            rw [← hj3] at hee
            obtain ⟨hc1, hc2⟩ := List.getElem?_eq_some_iff.1 hee
            obtain ⟨_, hr1, hr2, hr3⟩ := hat.next hu hm0 hm1 hc1
            rw [hc2] at hr1
            have hrd : p166.rds b166_0v_0 (g166_0v_0 q s rn rt (rows rs) kn kt (encL ks) r b (q ++ s) ks.length k) (p166.rts b166_0v_0 (encE (p, prs)) (g166_0v_0 q s rn rt (rows rs) kn kt (encL ks) r b (q ++ s) ks.length k)) =
                (if (!yoAns r b) = true then some (R.x (x166_0v_0x0 q s rn rt (rows rs) kn kt (encL ks) r b (q ++ s) ks.length k p (rows prs) none)) else some (R.s (g166_0v_0 q s rn rt (rows rs) kn kt (encL ks) r.tail b (q ++ s) ks.length k))) := by
              refine (congrArg _ (t166_0v_0 q s rn rt (rows rs) kn kt (encL ks) r b (q ++ s) ks.length k p (rows prs))).trans ?_
              have hyo : yoHd r [V.agg [V.c (C.str p), V.c (C.sl 5 none false (rows prs))]] = true := by rw [hr1]; exact eqb_encE p prs
              rw [rd_chk', if_pos hyo, rd_br, rd_leaf, rd_leaf]
            rcases hr3 with ⟨h1, h2⟩ | ⟨h1, h2, h3⟩
            · left
              refine ⟨r.tail, ⟨j + 1, rfl, by omega, ?_⟩, ?_⟩
              · rw [← Nat.add_assoc]; exact h2
              · rw [hrd, h1]; rfl
            · right
              refine ⟨x166_0v_0x0 q s rn rt (rows rs) kn kt (encL ks) r b (q ++ s) ks.length k p (rows prs) none, by simp, .inr ⟨x166_0vx0 q s rn rt (rows rs) kn kt (encL ks) r b (q ++ s) ks.length k p (rows prs) none, by simp, ?_, ?_⟩, ?_⟩
              · rw [k166_0vx0, fd_leaf, h2]
              · rw [k166_0v_0x0, ld_leaf]
              · rw [hrd, h1]; rfl)
          (by
            rintro r ⟨j, hj, hjl, hat⟩
            have hj2 : j = (walkT alA (q ++ s) ks[k]).length := by
              rcases Nat.lt_or_ge j (walkT alA (q ++ s) ks[k]).length with h | h
              · rw [List.drop_eq_getElem_cons h] at hj; cases hj
              · omega
            subst hj2
            left
            refine ⟨r, by rw [hnx, List.length_append, ← Nat.add_assoc]; exact hat, ?_⟩
            show p166.ld b166_0v (p166.lkx b166_0v 0 (x166_0v_0n q s rn rt (rows rs) kn kt (encL ks) r b (q ++ s) ks.length k)) = _
            rw [k166_0v_0n, ld_leaf, wrap_succ (by omega)])
          r rfl ⟨0, by simp, Nat.zero_le _, by simpa using hat⟩
        rw [t166_0v]
        simp only [nd_ok, nd_lab, nd_rows, nd_kids, encL_length, isL_enc, decL_enc, wrap_hd, hd_pos, ld_br, ld_chk', ld_leaf, fd_br, fd_chk', fd_leaf, decide_true, decide_eq_true_eq, if_true, Int.toNat_natCast, Int.natCast_nonneg, Int.ofNat_lt, Int.ofNat_le, Bool.false_eq_true, if_false, bne_iff_ne, beq_iff_eq, ne_eq, not_true_eq_false, not_false_eq_true, Bool.not_eq_true', decide_eq_false_iff_not, reduceCtorEq, rows_length, pcs_length, er_ok, er_ok', ep_ok, ep_ok', dr_er, dp_ep, isRows_rows, isPcs_pcs, toRows_rows, toPcs_pcs, rows_take, rows_drop, pcs_take, pcs_drop, rows_append, pcs_append, ints_length, isInts_ints, toInts_ints, ei_i, ei_ok, mk_headD, ints_take, ints_drop, ints_append, ints_snoc, ints_snoc', List.take_length, Nat.zero_add, Nat.le_refl, er_a, er_b, er_k, er_n, er_s, er_v, ep_a, ep_b, ep_hk, ep_hn, ep_hs, ep_wk, ep_wn, ep_ws, hk2, encL_getD hk2]
        obtain ⟨y, hy, hR⟩ := hin
        rcases hy with ⟨r', h1, h2⟩ | ⟨x, h1, h2, h3⟩
        · exact .inl ⟨r', h1, ld_rpost hct (by kernel_rfl) rfl ⟨y, h2, hR⟩⟩
        · exact .inr ⟨x, h1, h2, ld_rpost hct (by kernel_rfl) rfl ⟨y, h3, hR⟩⟩
      · intro r hat
        rw [List.take_length, ← hesl] at hat
        obtain ⟨rfl, rfl⟩ := hat.end_ hu hm0 rfl
        rw [t166_0v]
        exact ⟨x166_0vx1 q s rn rt (rows rs) kn kt (encL ks) [] false (q ++ s) ks.length ks.length, by simp, by rw [k166_0vx1, fd_leaf], by simp only [nd_ok, nd_lab, nd_rows, nd_kids, encL_length, isL_enc, decL_enc, wrap_hd, hd_pos, ld_br, ld_chk', ld_leaf, fd_br, fd_chk', fd_leaf, decide_true, decide_eq_true_eq, if_true, Int.toNat_natCast, Int.natCast_nonneg, Int.ofNat_lt, Int.ofNat_le, Bool.false_eq_true, if_false, bne_iff_ne, beq_iff_eq, ne_eq, not_true_eq_false, not_false_eq_true, Bool.not_eq_true', decide_eq_false_iff_not, reduceCtorEq, rows_length, pcs_length, er_ok, er_ok', ep_ok, ep_ok', dr_er, dp_ep, isRows_rows, isPcs_pcs, toRows_rows, toPcs_pcs, rows_take, rows_drop, pcs_take, pcs_drop, rows_append, pcs_append, ints_length, isInts_ints, toInts_ints, ei_i, ei_ok, mk_headD, ints_take, ints_drop, ints_append, ints_snoc, ints_snoc', List.take_length, Nat.zero_add, Nat.le_refl, er_a, er_b, er_k, er_n, er_s, er_v, ep_a, ep_b, ep_hk, ep_hn, ep_hs, ep_wk, ep_wn, ep_ws, Int.lt_irrefl]⟩
    have hql : q.length + s.length < 4294967296 := by omega
    have hrl2 : rs.length < 4294967296 := by omega
    simp only [nd_ok, nd_lab, nd_rows, nd_kids, encL_length, isL_enc, decL_enc, wrap_hd, hd_pos, ld_br, ld_chk', ld_leaf, fd_br, fd_chk', fd_leaf, decide_true, decide_eq_true_eq, if_true, Int.toNat_natCast, Int.natCast_nonneg, Int.ofNat_lt, Int.ofNat_le, Bool.false_eq_true, if_false, bne_iff_ne, beq_iff_eq, ne_eq, not_true_eq_false, not_false_eq_true, Bool.not_eq_true', decide_eq_false_iff_not, reduceCtorEq, rows_length, pcs_length, er_ok, er_ok', ep_ok, ep_ok', dr_er, dp_ep, isRows_rows, isPcs_pcs, toRows_rows, toPcs_pcs, rows_take, rows_drop, pcs_take, pcs_drop, rows_append, pcs_append, ints_length, isInts_ints, toInts_ints, ei_i, ei_ok, mk_headD, ints_take, ints_drop, ints_append, ints_snoc, ints_snoc', List.take_length, Nat.zero_add, Nat.le_refl, er_a, er_b, er_k, er_n, er_s, er_v, ep_a, ep_b, ep_hk, ep_hn, ep_hs, ep_wk, ep_wn, ep_ws, hql, hrl2]
    by_cases c : rs = []
    · subst c
      rw [if_neg (by simp)]
      exact key u at0
    · have c0 : (0 : Int) < rs.length := by have := List.length_pos_iff.2 c; omega
      obtain ⟨r0, rr, rfl⟩ : ∃ a r, rs = a :: r := by cases rs with | nil => exact absurd rfl c | cons a r => exact ⟨a, r, rfl⟩
      have ho : ownW (q ++ s) (r0 :: rr) = [(q ++ s, r0 :: rr)] := rfl
      have h0 : 0 < es.length := by rw [hesl, ho]; simp; omega
      have he0 : es[0] = encE (q ++ s, r0 :: rr) := by simp only [← hes, ho]; rfl
      obtain ⟨_, hr1, hr2, hr3⟩ := at0.next hu hm0 hm1 h0
      rw [he0] at hr1
      have hyo : yoHd u [V.agg [V.c (C.str (q ++ s)), V.c (C.sl 5 none false (rows (r0 :: rr)))]] = true := by rw [hr1]; exact eqb_encE _ _
      rw [if_pos c0]
      simp only [hn', hyo, if_true]
      rcases hr3 with ⟨h1, h2⟩ | ⟨h1, h2, h3⟩
      · rw [if_neg (by simp [h1])]
        exact key u.tail (by rw [ho]; exact h2)
      · rw [if_pos (by simp [h1]), h2]
end Go.Proofs.YtgaabjmbnomimaaDoor
namespace Go.Proofs.YtgaabjmbnomimaaDoor
open Go Go.Ev
-- cse
noncomputable abbrev p81 : Par := par E sh (ctOf [(28, s28), (134, s134), (82, s82)]) 81 3 0
abbrev s81_0 (s : Bys) (rn : OBo) (rt : Bool) (xs : LLC) (kn : OBo) (kt : Bool) (ys : LLC) (nl6 : OBo) (t6 : Bool) (xs6 : LLC) (ys1 : LLC) (nh2 : Nat) (sh4 : Bys) : Fr × Hp := ([(5, V.ptr 0 0 0 0), (6, V.c (C.sl 2 nl6 t6 xs6)), (7, V.ptr 2 0 0 0), (14, V.fn 166 [V.ptr 4 0 0 0, V.ptr 3 0 0 0, V.ptr 5 0 0 0])], [O.box [V.fn 82 []], O.mem 2 0 ys1, O.box [V.buf 1 0 0 nh2], O.box [V.c (C.str s), V.c (C.sl 5 rn rt xs), V.c (C.sl 3 kn kt ys)], O.box [V.c (C.str sh4)], O.box [V.fn 82 []]])
noncomputable abbrev b81_0 : Code := loopAt (codeOf E (81)) 0
abbrev g81_0 (nl6 : OBo) (t6 : Bool) (xs6 : LLC) (ys1 : LLC) (nh2 : Nat) : Fr × Hp := ([(5, V.ptr 0 0 0 0), (6, V.c (C.sl 2 nl6 t6 xs6)), (7, V.ptr 2 0 0 0), (14, V.fn 166 [V.ptr 4 0 0 0, V.ptr 3 0 0 0, V.ptr 5 0 0 0])], [O.box [V.fn 82 []], O.mem 2 0 ys1, O.box [V.buf 1 0 0 nh2], O.gone, O.gone, O.gone])
abbrev x81_0n (nl6 : OBo) (t6 : Bool) (xs6 : LLC) (ys1 : LLC) (nh2 : Nat) : Ex × Fr × Hp := (Ex.nrm, [(5, V.ptr 0 0 0 0), (6, V.c (C.sl 2 nl6 t6 xs6)), (7, V.ptr 2 0 0 0), (14, V.fn 166 [V.ptr 4 0 0 0, V.ptr 3 0 0 0, V.ptr 5 0 0 0])], [O.box [V.fn 82 []], O.mem 2 0 ys1, O.box [V.buf 1 0 0 nh2], O.gone, O.gone, O.gone])
theorem t81_0 (nl6 : OBo) (t6 : Bool) (xs6 : LLC) (ys1 : LLC) (nh2 : Nat) (p : Bys) (zs : LLC) : p81.rts b81_0 ([V.agg [V.c (C.str p), V.c (C.sl 5 none false zs)]]) (g81_0 nl6 t6 xs6 ys1 nh2) = (Tr.br true (Tr.chk true (Tr.chk true (Tr.chk (decide (nh2 + 1 < 4294967296)) (Tr.chk true (Tr.leaf (R.s (g81_0 nl6 t6 xs6 (List.take nh2 ys1 ++ [[C.str p, C.sl 5 none false zs]]) (nh2 + 1)))))))) (Tr.leaf (R.s (g81_0 nl6 t6 xs6 ys1 nh2)))) := by kernel_rfl
theorem k81_0n (nl6 : OBo) (t6 : Bool) (xs6 : LLC) (ys1 : LLC) (nh2 : Nat) : p81.fkx 0 (x81_0n nl6 t6 xs6 ys1 nh2) = (Tr.leaf (R.out [V.c (C.sl 2 none false (List.take nh2 ys1))] [])) := by kernel_rfl
theorem t81 (s : Bys) (rn : OBo) (rt : Bool) (xs : LLC) (kn : OBo) (kt : Bool) (ys : LLC) : p81.ft ([V.agg [V.c (C.str s), V.c (C.sl 5 rn rt xs), V.c (C.sl 3 kn kt ys)], V.fn 82 [], V.fn 82 []]) ([]) = (Tr.chk (isRows xs) (Tr.chk (isL ys) (Tr.br (checkT (Nd.node s (toRows xs) (decL ys)) != 0) (Tr.leaf (R.out [V.c (C.sl 2 none false [])] [])) (Tr.rs 0 (s81_0 s rn rt xs kn kt ys (some true) true ([]) ([]) (0) ([])))))) := by kernel_rfl
def s81 : CSpec := fun a h => match a, h with
  | [.agg [.c (.str s), .c (.sl 5 rn rt xs), .c (.sl 3 kn kt ys)], .fn 82 [], .fn 82 []], [] => some ([isRows xs, isL ys, decide ((entL (decL ys)).length < 1000000000)], [.c (.sl 2 none false (ents (entP (.node s (toRows xs) (decL ys)))))], [])
  | _, _ => none
noncomputable abbrev p34 : Par := par E sh (ctOf [(81, s81)]) 34 1 0
theorem t34 (s : Bys) (rn : OBo) (rt : Bool) (xs : LLC) (kn : OBo) (kt : Bool) (ys : LLC) : p34.ft ([V.agg [V.c (C.str s), V.c (C.sl 5 rn rt xs), V.c (C.sl 3 kn kt ys)]]) ([]) = (Tr.chk (isRows xs) (Tr.chk (isL ys) (Tr.chk (decide ((entL (decL ys)).length < 1000000000)) (Tr.leaf (R.out [V.c (C.sl 2 none false (ents (entP (Nd.node s (toRows xs) (decL ys)))))] []))))) := by kernel_rfl
end Go.Proofs.YtgaabjmbnomimaaDoor
namespace Go.Proofs.YtgaabjmbnomimaaDoor
open Go Go.Ev
theorem ownW_E (q : Bys) (rs : List Row) : ownW q rs = ownE q rs := by
  unfold ownE; cases rs <;> simp [ownW]
mutual
theorem walkT_all : ∀ (q : Bys) (t : Nd), walkT alA q t = pre q (entT t)
  | q, .node s rs ks => by
    rw [walkT_eq, entT_node, ← ownW_E, ← walkL_all (q ++ s) ks]; rfl
theorem walkL_all : ∀ (q : Bys) (l : List Nd), walkL alA q l = pre q (entL l)
  | q, [] => rfl
  | q, t :: r => by rw [walkL, entL, pre_app, walkT_all q t, walkL_all q r]
end
theorem walk_root (ks : List Nd) : walkT alA [] (.node [] [] ks) = entL ks := by
  rw [walkT_all, entT_node, List.nil_append, pre_nil]; rfl
theorem ents_take (l : List Ent) (n : Nat) (h : n = l.length) : List.take n (ents l) = ents l := by rw [h, ← ents_length, List.take_length]
theorem entP_node (s : Bys) (rs : List Row) (ks : List Nd) : entP (.node s rs ks) = cond (okR (.node s rs ks)) (entL ks) [] := rfl
theorem ents_snoc (l : List Ent) (p : Bys) (rs : List Row) : ents l ++ [[C.str p, C.sl 5 none false (rows rs)]] = ents (l ++ [(p, rs)]) := by simp [ents, ee]
theorem f81 (s : Bys) (rn : OBo) (rt : Bool) (rs : List Row) (kn : OBo) (kt : Bool) (ks : List Nd) (hn : (entL ks).length < 1000000000) :
    call E 81 [.agg [.c (.str s), .c (.sl 5 rn rt (rows rs)), .c (.sl 3 kn kt (encL ks))], .fn 82 [], .fn 82 []] [] = some ([.c (.sl 2 none false (ents (entP (.node s rs ks))))], []) := by
  have hct : (ctOf [(28, s28), (134, s134), (82, s82)]).ok E := ctOf_cons s28_ok (ctOf_cons s134_ok (ctOf_cons s82_ok ctOf_nil))
  refine call_of (E := E) (sh := sh) (ct := ctOf [(28, s28), (134, s134), (82, s82)]) (na := 3) (m := 0) hct rfl rfl rfl rfl rfl rfl ?_
  rw [t81]
  simp only [nd_ok, nd_lab, nd_rows, nd_kids, encL_length, isL_enc, decL_enc, wrap_hd, hd_pos, ld_br, ld_chk', ld_leaf, fd_br, fd_chk', fd_leaf, decide_true, decide_eq_true_eq, if_true, Int.toNat_natCast, Int.natCast_nonneg, Int.ofNat_lt, Int.ofNat_le, Bool.false_eq_true, if_false, bne_iff_ne, beq_iff_eq, ne_eq, not_true_eq_false, not_false_eq_true, Bool.not_eq_true', decide_eq_false_iff_not, reduceCtorEq, rows_length, pcs_length, er_ok, er_ok', ep_ok, ep_ok', dr_er, dp_ep, isRows_rows, isPcs_pcs, toRows_rows, toPcs_pcs, rows_take, rows_drop, pcs_take, pcs_drop, rows_append, pcs_append, ints_length, isInts_ints, toInts_ints, ei_i, ei_ok, mk_headD, ints_take, ints_drop, ints_append, ints_snoc, ints_snoc', List.take_length, Nat.zero_add, Nat.le_refl, er_a, er_b, er_k, er_n, er_s, er_v, ep_a, ep_b, ep_hk, ep_hn, ep_hs, ep_wk, ep_wn, ep_ws, checkT_ne]
  rw [entP_node]
  cases c1 : okR (.node s rs ks) with
  | false => rfl
  | true =>
    have c1' := okR_iff.1 c1
    simp only [Nd.lab_node, Nd.rows_node, Nd.kids_node] at c1'
    obtain ⟨rfl, rfl, hk⟩ := c1'
    simp only [Bool.not_true, Bool.false_eq_true, if_false, cond_true]
    refine fd_rpost hct (by kernel_rfl) rfl (ranges_post (p := p81) hct (c := b81_0) (gi := 166) (caps := [.ptr 4 0 0 0, .ptr 3 0 0 0, .ptr 5 0 0 0]) (args := args166)
      (h0 := boxK [] [] rn rt (rows []) kn kt (encL ks)) (ids := [4, 3, 5]) (by kernel_rfl) (entL ks) encE rfl (by kernel_rfl)
      (by have := sq166_ok [] [] rn rt [] kn kt ks; rw [walk_root] at this; exact this)
      (fun u b hw => ⟨_, _, f166 (depL ks + 1) [] [] rn rt [] kn kt ks 24 (Nat.lt_succ_self _) (by simp) hk rfl (.inr rfl) u b (by rw [walk_root]; exact hw), rfl⟩)
      (fun (acc : List Ent) => g81_0 (some true) true [] (ents acc) acc.length) (fun l acc => acc ++ l = entL ks) _ ?_ ?_ [] rfl rfl)
    · rintro ⟨p, prs⟩ l acc hi
      left
      have hlen : acc.length + 1 < 4294967296 := by
        have := congrArg List.length hi
        simp only [List.length_append, List.length_cons] at this; omega
      refine ⟨acc ++ [(p, prs)], by rw [← hi]; simp, ?_⟩
      refine (congrArg _ (t81_0 (some true) true [] (ents acc) acc.length p (rows prs))).trans ?_
      simp only [rd_br, rd_chk', rd_leaf, if_true, hlen, decide_true, ents_take acc acc.length rfl, ents_snoc, List.length_append, List.length_singleton]
    · intro acc hi
      rw [List.append_nil] at hi
      subst hi
      show p81.fd (p81.fkx 0 (x81_0n (some true) true [] (ents (entL ks)) (entL ks).length)) = _
      rw [k81_0n, fd_leaf, ents_take _ _ rfl]
theorem s81_ok : CSpecOk E 81 s81 := by
  intro a h cs vals h' he hc
  unfold s81 at he
  split at he <;> simp only [Option.some.injEq, Prod.mk.injEq, reduceCtorEq] at he
  rename_i s rn rt xs kn kt ys
  obtain ⟨rfl, rfl, rfl⟩ := he
  simp only [allT, Bool.and_true, Bool.and_eq_true, decide_eq_true_eq] at hc
  obtain ⟨h1, h2, h3⟩ := hc
  obtain ⟨rs, rfl⟩ := rows_ex h1
  obtain ⟨ks, rfl⟩ := isL_ex h2
  simp only [toRows_rows, decL_enc] at *
  exact f81 s rn rt rs kn kt ks h3
theorem f34 (s : Bys) (rn : OBo) (rt : Bool) (rs : List Row) (kn : OBo) (kt : Bool) (ks : List Nd) (hn : (entL ks).length < 1000000000) :
    call E 34 [.agg [.c (.str s), .c (.sl 5 rn rt (rows rs)), .c (.sl 3 kn kt (encL ks))]] [] = some ([.c (.sl 2 none false (ents (entP (.node s rs ks))))], []) := by
  refine call_of (E := E) (sh := sh) (ct := ctOf [(81, s81)]) (na := 1) (m := 0) (ctOf_cons s81_ok ctOf_nil) rfl rfl rfl rfl rfl rfl ?_
  rw [t34]
  simp only [nd_ok, nd_lab, nd_rows, nd_kids, encL_length, isL_enc, decL_enc, wrap_hd, hd_pos, ld_br, ld_chk', ld_leaf, fd_br, fd_chk', fd_leaf, decide_true, decide_eq_true_eq, if_true, Int.toNat_natCast, Int.natCast_nonneg, Int.ofNat_lt, Int.ofNat_le, Bool.false_eq_true, if_false, bne_iff_ne, beq_iff_eq, ne_eq, not_true_eq_false, not_false_eq_true, Bool.not_eq_true', decide_eq_false_iff_not, reduceCtorEq, rows_length, pcs_length, er_ok, er_ok', ep_ok, ep_ok', dr_er, dp_ep, isRows_rows, isPcs_pcs, toRows_rows, toPcs_pcs, rows_take, rows_drop, pcs_take, pcs_drop, rows_append, pcs_append, ints_length, isInts_ints, toInts_ints, ei_i, ei_ok, mk_headD, ints_take, ints_drop, ints_append, ints_snoc, ints_snoc', List.take_length, Nat.zero_add, Nat.le_refl, er_a, er_b, er_k, er_n, er_s, er_v, ep_a, ep_b, ep_hk, ep_hn, ep_hs, ep_wk, ep_wn, ep_ws, hn]
def s34 : CSpec := fun a h => match a, h with
  | [.agg [.c (.str s), .c (.sl 5 rn rt xs), .c (.sl 3 kn kt ys)]], [] => some ([isRows xs, isL ys, decide ((entL (decL ys)).length < 1000000000)], [.c (.sl 2 none false (ents (entP (.node s (toRows xs) (decL ys)))))], [])
  | _, _ => none
theorem s34_ok : CSpecOk E 34 s34 := by
  intro a h cs vals h' he hc
  unfold s34 at he
  split at he <;> simp only [Option.some.injEq, Prod.mk.injEq, reduceCtorEq] at he
  rename_i s rn rt xs kn kt ys
  obtain ⟨rfl, rfl, rfl⟩ := he
  simp only [allT, Bool.and_true, Bool.and_eq_true, decide_eq_true_eq] at hc
  obtain ⟨h1, h2, h3⟩ := hc
  obtain ⟨rs, rfl⟩ := rows_ex h1
  obtain ⟨ks, rfl⟩ := isL_ex h2
  simp only [toRows_rows, decL_enc] at *
  exact f34 s rn rt rs kn kt ks h3
end Go.Proofs.YtgaabjmbnomimaaDoor
namespace Go.Proofs.YtgaabjmbnomimaaDoor
open Go Go.Ev
section
variable (al w : List UInt8 → Bool) (hw : ∀ s q, w (s ++ q) = true → al s = true)
include hw
theorem pre_pref (q : Bys) (t : Nd) : ∀ e ∈ pre q (entT t), ∃ s, e.1 = (q ++ t.lab) ++ s := fun e he => by
  simp only [pre, List.mem_map] at he
  obtain ⟨d, hd, rfl⟩ := he
  obtain ⟨s, hs⟩ := entT_pre t d hd
  exact ⟨s, by simp [hs]⟩
mutual
theorem walkT_want : ∀ (q : Bys) (t : Nd), (walkT al q t).filter (fun e => w e.1) = (pre q (entT t)).filter (fun e => w e.1)
  | q, .node s rs ks => by
    rw [walkT_eq]
    cases c : al (q ++ s) with
    | true =>
      rw [entT_node, ← ownW_E, cond_true, List.filter_append, List.filter_append, walkL_want (q ++ s) ks]
    | false =>
      rw [cond_false]
      symm
      rw [List.filter_nil, List.filter_eq_nil_iff]
      intro e he h
      obtain ⟨r, hr⟩ := pre_pref al w hw q (.node s rs ks) e he
      rw [hr] at h
      have := hw _ _ h
      rw [show (Nd.node s rs ks).lab = s from rfl, c] at this; cases this
theorem walkL_want : ∀ (q : Bys) (l : List Nd), (walkL al q l).filter (fun e => w e.1) = (pre q (entL l)).filter (fun e => w e.1)
  | q, [] => rfl
  | q, t :: r => by rw [walkL, entL, pre_app, List.filter_append, List.filter_append, walkT_want q t, walkL_want q r]
end
theorem walk_want (ks : List Nd) : (walkT al [] (.node [] [] ks)).filter (fun e => w e.1) = (entL ks).filter (fun e => w e.1) := by
  rw [walkT_want al w hw, entT_node, List.nil_append, pre_nil]; rfl
end
theorem begins_pre {s p : List UInt8} : begins s p = true ↔ p <+: s := by
  simp only [begins, Bool.and_eq_true, decide_eq_true_eq]
  constructor
  · rintro ⟨_, h⟩; rw [← h]; exact List.take_prefix _ _
  · intro h; exact ⟨h.length_le, (List.prefix_iff_eq_take.1 h).symm⟩
theorem alU_ok (p : Bys) : ∀ s q, begins (s ++ q) p = true → alU p s = true := fun s q h => by
  rw [alU, Bool.or_eq_true, begins_pre, begins_pre]
  rw [begins_pre] at h
  rcases Nat.le_total p.length s.length with k | k
  · exact .inl (List.prefix_of_prefix_length_le h (List.prefix_append s q) k)
  · exact .inr (List.prefix_of_prefix_length_le (List.prefix_append s q) h k)
def wB (fr to_ : Bys) (q : Bys) : Bool := !Op.bytesLess q fr && (match to_ with | [] => true | _ :: _ => Op.bytesLess q to_)
theorem pre_between : ∀ (s q fr : Bys), Op.bytesLess (s ++ q) fr = false → Op.bytesLess s fr = true → s <+: fr
  | [], _, _, _, _ => List.nil_prefix
  | a :: s, q, [], _, h => by simp [Op.bytesLess] at h
  | a :: s, q, b :: fr, h, k => by
    simp only [List.cons_append, Op.bytesLess, Bool.or_eq_false_iff, decide_eq_false_iff_not, Bool.and_eq_false_iff, beq_eq_false_iff_ne] at h
    simp only [Op.bytesLess, Bool.or_eq_true, decide_eq_true_eq, Bool.and_eq_true, beq_iff_eq] at k
    rcases k with k | ⟨rfl, k⟩
    · exact absurd k h.1
    · rw [List.cons_prefix_cons]
      exact ⟨rfl, pre_between s q fr (h.2.resolve_left (by simp)) k⟩
theorem alB_ok (fr to_ : Bys) : ∀ s q, wB fr to_ (s ++ q) = true → alB fr to_ s = true := fun s q h => by
  unfold wB at h; rw [Bool.and_eq_true] at h
  unfold alB; rw [Bool.and_eq_true]
  refine ⟨?_, ?_⟩
  · rw [Bool.or_eq_true, begins_pre]
    cases c : Op.bytesLess s fr with
    | false => exact .inl rfl
    | true => exact .inr (pre_between s q fr (by simpa using h.1) c)
  · have h2 := h.2
    cases to_ with
    | nil => rfl
    | cons b r =>
      simp only at h2 ⊢
      cases q with
      | nil => rw [List.append_nil] at h2; exact h2
      | cons c q =>
        have : Op.bytesLess s (s ++ c :: q) = true := by have := bl_app s [] (c :: q); rw [List.append_nil] at this; rw [this]; rfl
        exact bl_trans this h2
mutual
theorem countT_ent : ∀ (t : Nd) (n : Nat), okT t n = true → countT t + 1 ≤ 2 * (entT t).length
  | .node s rs ks, n, h => by
    obtain ⟨g1, g2, g3, g4, g5⟩ := okT_iff.1 h
    simp only [Nd.lab_node, Nd.rows_node, Nd.kids_node] at g4 g5
    have hk := countL_ent ks _ g5
    rw [countT_eq, entT]
    simp only [Nd.kids_node, List.length_append, List.length_map]
    by_cases c : rs = []
    · rcases g4 with g4 | g4
      · exact absurd c g4
      · omega
    · rw [if_neg c]; simp only [List.length_singleton]; omega
theorem countL_ent : ∀ (l : List Nd) (n : Nat), kidsOk l n → countL l + l.length ≤ 2 * (entL l).length
  | [], _, _ => by simp [countL]
  | t :: r, n, h => by
    have h1 := countT_ent t n (h.1 t (by simp))
    have h2 := countL_ent r n (kidsOk_sub h (List.sublist_cons_self _ _))
    rw [countL, entL]
    simp only [List.length_append, List.length_cons]; omega
end
theorem nodes_le {t : Nd} (h : okR t = true) : countT t ≤ 2 * (entR t).length + 1 := by
  have := countL_ent t.kids 24 (okR_iff.1 h).2.2
  rw [countT_eq]
  show _ ≤ 2 * (entL t.kids).length + 1
  omega
theorem parts {l : List Ent} (hr : Rise l) {a b c : List UInt8} (h1 : Op.bytesLess b a = false) (h2 : Op.bytesLess c b = false) (hb : b ≠ []) (hc : c ≠ []) :
    l.filter (fun e => wB a b e.1) ++ l.filter (fun e => wB b c e.1) = l.filter (fun e => wB a c e.1) := by
  have eb : ∀ {x y q : List UInt8}, y ≠ [] → wB x y q = (!Op.bytesLess q x && Op.bytesLess q y) := fun {x y q} h => by
    cases y with | nil => exact absurd rfl h | cons d r => rfl
  induction l with
  | nil => rfl
  | cons e l ih =>
    rw [Rise, List.pairwise_cons] at hr
    have ih := ih hr.2
    simp only [List.filter_cons, eb hb, eb hc] at ih ⊢
    cases hq : Op.bytesLess e.1 b with
    | true =>
      have hqc : Op.bytesLess e.1 c = true := by
        cases k : Op.bytesLess e.1 c with
        | true => rfl
        | false => rw [bl_ge k h2] at hq; cases hq
      simp only [hqc, Bool.and_true, Bool.not_true, Bool.false_and, Bool.false_eq_true, if_false]
      split
      · rw [List.cons_append, ih]
      · exact ih
    | false =>
      have hqa : Op.bytesLess e.1 a = false := bl_ge hq h1
      have hnone : l.filter (fun e => (!Op.bytesLess e.1 a && Op.bytesLess e.1 b)) = [] := by
        rw [List.filter_eq_nil_iff]
        intro d hd k
        simp only [Bool.and_eq_true] at k
        have h3 := bl_trans (hr.1 d hd) k.2
        rw [hq] at h3; cases h3
      rw [hnone, List.nil_append] at ih
      simp only [hqa, Bool.and_false, Bool.not_false, Bool.true_and, Bool.false_eq_true, if_false]
      rw [hnone, List.nil_append]
      split
      · rw [ih]
      · exact ih
end Go.Proofs.YtgaabjmbnomimaaDoor
namespace Go.Proofs.YtgaabjmbnomimaaDoor
open Go Go.Ev
-- cse
noncomputable abbrev p89 : Par := par E sh (ctOf [(67, s125)]) 89 2 0
theorem t89 (s : Bys) (p : Bys) : p89.ft ([V.c (C.str s), V.fp [C.str p]]) ([]) = (Tr.leaf (R.out [V.c (C.bool (begins s p))] [])) := by kernel_rfl
noncomputable abbrev p88 : Par := par E sh (ctOf [(67, s125)]) 88 2 0
theorem t88 (s : Bys) (p : Bys) : p88.ft ([V.c (C.str s), V.fp [C.str p]]) ([]) = (Tr.br (begins s p) (Tr.leaf (R.out [V.c (C.bool true)] [])) (Tr.leaf (R.out [V.c (C.bool (begins p s))] []))) := by kernel_rfl
noncomputable abbrev p86 : Par := par E sh (ctOf [(67, s125)]) 86 3 0
theorem t86 (s : Bys) (p : Bys) (q : Bys) : p86.ft ([V.c (C.str s), V.fp [C.str p], V.fp [C.str q]]) ([]) = (Tr.br (!Op.bytesLess s p) (Tr.br (q == []) (Tr.leaf (R.out [V.c (C.bool true)] [])) (Tr.leaf (R.out [V.c (C.bool (Op.bytesLess s q))] []))) (Tr.br (begins p s) (Tr.br (q == []) (Tr.leaf (R.out [V.c (C.bool true)] [])) (Tr.leaf (R.out [V.c (C.bool (Op.bytesLess s q))] []))) (Tr.leaf (R.out [V.c (C.bool false)] [])))) := by kernel_rfl
noncomputable abbrev p87 : Par := par E sh (ctOf []) 87 3 0
theorem t87 (s : Bys) (p : Bys) (q : Bys) : p87.ft ([V.c (C.str s), V.fp [C.str p], V.fp [C.str q]]) ([]) = (Tr.br (!Op.bytesLess s p) (Tr.br (q == []) (Tr.leaf (R.out [V.c (C.bool true)] [])) (Tr.leaf (R.out [V.c (C.bool (Op.bytesLess s q))] []))) (Tr.leaf (R.out [V.c (C.bool false)] []))) := by kernel_rfl
def s89 : CSpec := fun a h => match a, h with
  | [.c (.str s), .fp [.str p]], [] => some ([], [V.b (begins s p)], [])
  | _, _ => none
def s88 : CSpec := fun a h => match a, h with
  | [.c (.str s), .fp [.str p]], [] => some ([], [V.b (alU p s)], [])
  | _, _ => none
def s86 : CSpec := fun a h => match a, h with
  | [.c (.str s), .fp [.str p], .fp [.str q]], [] => some ([], [V.b (alB p q s)], [])
  | _, _ => none
def s87 : CSpec := fun a h => match a, h with
  | [.c (.str s), .fp [.str p], .fp [.str q]], [] => some ([], [V.b (wB p q s)], [])
  | _, _ => none
noncomputable abbrev p134u : Par := par E sh (ctOf []) 134 3 0
theorem t134u (s : Bys) (rn : OBo) (rt : Bool) (xs : LLC) (kn : OBo) (kt : Bool) (ys : LLC) (q : Bys) (p : Bys) : p134u.ft ([V.agg [V.c (C.str s), V.c (C.sl 5 rn rt xs), V.c (C.sl 3 kn kt ys)], V.c (C.str q), V.fn 88 [V.fp [C.str p]]]) ([]) = (Tr.leaf (R.out [V.fn 166 [V.ptr 1 0 0 0, V.ptr 0 0 0 0, V.ptr 2 0 0 0]] [O.box [V.c (C.str s), V.c (C.sl 5 rn rt xs), V.c (C.sl 3 kn kt ys)], O.box [V.c (C.str q)], O.box [V.fn 88 [V.fp [C.str p]]]])) := by kernel_rfl
noncomputable abbrev p134b : Par := par E sh (ctOf []) 134 3 0
theorem t134b (s : Bys) (rn : OBo) (rt : Bool) (xs : LLC) (kn : OBo) (kt : Bool) (ys : LLC) (q : Bys) (p : Bys) (p2 : Bys) : p134b.ft ([V.agg [V.c (C.str s), V.c (C.sl 5 rn rt xs), V.c (C.sl 3 kn kt ys)], V.c (C.str q), V.fn 86 [V.fp [C.str p], V.fp [C.str p2]]]) ([]) = (Tr.leaf (R.out [V.fn 166 [V.ptr 1 0 0 0, V.ptr 0 0 0 0, V.ptr 2 0 0 0]] [O.box [V.c (C.str s), V.c (C.sl 5 rn rt xs), V.c (C.sl 3 kn kt ys)], O.box [V.c (C.str q)], O.box [V.fn 86 [V.fp [C.str p], V.fp [C.str p2]]]])) := by kernel_rfl
def s134u : CSpec := fun a h => match a, h with
  | [.agg [.c (.str s), .c (.sl 5 rn rt xs), .c (.sl 3 kn kt ys)], .c (.str q), .fn 88 [.fp [.str p]]], [] => some ([], [.fn 166 [.ptr 1 0 0 0, .ptr 0 0 0 0, .ptr 2 0 0 0]], [.box [.c (.str s), .c (.sl 5 rn rt xs), .c (.sl 3 kn kt ys)], .box [.c (.str q)], .box [.fn 88 [.fp [.str p]]]])
  | _, _ => none
def s134b : CSpec := fun a h => match a, h with
  | [.agg [.c (.str s), .c (.sl 5 rn rt xs), .c (.sl 3 kn kt ys)], .c (.str q), .fn 86 [.fp [.str p], .fp [.str p2]]], [] => some ([], [.fn 166 [.ptr 1 0 0 0, .ptr 0 0 0 0, .ptr 2 0 0 0]], [.box [.c (.str s), .c (.sl 5 rn rt xs), .c (.sl 3 kn kt ys)], .box [.c (.str q)], .box [.fn 86 [.fp [.str p], .fp [.str p2]]]])
  | _, _ => none
noncomputable abbrev p166u : Par := par E sh (ctOf [(88, s88), (68, s68), (134, s134u)]) 166 4 4
abbrev s166u_0 (pf : Bys) (q : Bys) (s : Bys) (rn : OBo) (rt : Bool) (xs : LLC) (kn : OBo) (kt : Bool) (ys : LLC) (r : List (List V)) (b : Bool) (s5 : Bys) (i33 : Int) (i34 : Int) : Fr × Hp := ([(3, V.ptr 2 0 0 0), (4, V.ptr 4 0 0 0), (5, V.c (C.str s5)), (32, V.c (C.sl 3 kn kt ys)), (33, V.c (C.int IntKind.i64 i33)), (34, V.c (C.int IntKind.i64 i34))], [O.box [V.c (C.str q)], O.box [V.c (C.str s), V.c (C.sl 5 rn rt xs), V.c (C.sl 3 kn kt ys)], O.box [V.fn 88 [V.fp [C.str pf]]], O.yo r.tail b, O.box [V.yl 3]])
abbrev s166u_0v (pf : Bys) (q : Bys) (s : Bys) (rn : OBo) (rt : Bool) (xs : LLC) (kn : OBo) (kt : Bool) (ys : LLC) (r : List (List V)) (b : Bool) (s5 : Bys) (i33 : Int) (i34 : Int) : Fr × Hp := ([(3, V.ptr 2 0 0 0), (4, V.ptr 4 0 0 0), (5, V.c (C.str s5)), (32, V.c (C.sl 3 kn kt ys)), (33, V.c (C.int IntKind.i64 i33)), (34, V.c (C.int IntKind.i64 i34))], [O.box [V.c (C.str q)], O.box [V.c (C.str s), V.c (C.sl 5 rn rt xs), V.c (C.sl 3 kn kt ys)], O.box [V.fn 88 [V.fp [C.str pf]]], O.yo r b, O.box [V.yl 3]])
noncomputable abbrev b166u_0v : Code := loopAt (codeOf E (166)) 0
abbrev s166u_0v_0 (pf : Bys) (q : Bys) (s : Bys) (rn : OBo) (rt : Bool) (xs : LLC) (kn : OBo) (kt : Bool) (ys : LLC) (r : List (List V)) (b : Bool) (s5 : Bys) (i33 : Int) (i34 : Int) (sh5 : Bys) (nlh5 : OBo) (th5 : Bool) (xsh5 : LLC) (nlh5_1 : OBo) (th5_1 : Bool) (xsh5_1 : LLC) : Fr × Hp := ([(3, V.ptr 2 0 0 0), (4, V.ptr 4 0 0 0), (5, V.c (C.str s5)), (32, V.c (C.sl 3 kn kt ys)), (33, V.c (C.int IntKind.i64 i33)), (34, V.c (C.int IntKind.i64 i34)), (41, V.fn 166 [V.ptr 6 0 0 0, V.ptr 5 0 0 0, V.ptr 7 0 0 0])], [O.box [V.c (C.str q)], O.box [V.c (C.str s), V.c (C.sl 5 rn rt xs), V.c (C.sl 3 kn kt ys)], O.box [V.fn 88 [V.fp [C.str pf]]], O.yo r b, O.box [V.yl 3], O.box [V.c (C.str sh5), V.c (C.sl 5 nlh5 th5 xsh5), V.c (C.sl 3 nlh5_1 th5_1 xsh5_1)], O.box [V.c (C.str s5)], O.box [V.fn 88 [V.fp [C.str pf]]]])
noncomputable abbrev b166u_0v_0 : Code := loopAt b166u_0v 0
abbrev g166u_0v_0 (pf : Bys) (q : Bys) (s : Bys) (rn : OBo) (rt : Bool) (xs : LLC) (kn : OBo) (kt : Bool) (ys : LLC) (r : List (List V)) (b : Bool) (s5 : Bys) (i33 : Int) (i34 : Int) : Fr × Hp := ([(3, V.ptr 2 0 0 0), (4, V.ptr 4 0 0 0), (5, V.c (C.str s5)), (32, V.c (C.sl 3 kn kt ys)), (33, V.c (C.int IntKind.i64 i33)), (34, V.c (C.int IntKind.i64 i34)), (41, V.fn 166 [V.ptr 6 0 0 0, V.ptr 5 0 0 0, V.ptr 7 0 0 0])], [O.box [V.c (C.str q)], O.box [V.c (C.str s), V.c (C.sl 5 rn rt xs), V.c (C.sl 3 kn kt ys)], O.box [V.fn 88 [V.fp [C.str pf]]], O.yo r b, O.box [V.yl 3], O.gone, O.gone, O.gone])
abbrev x166u_0v_0x0 (pf : Bys) (q : Bys) (s : Bys) (rn : OBo) (rt : Bool) (xs : LLC) (kn : OBo) (kt : Bool) (ys : LLC) (r : List (List V)) (b : Bool) (s5 : Bys) (i33 : Int) (i34 : Int) (p : Bys) (zs : LLC) (nlh8 : OBo) : Ex × Fr × Hp := (Ex.ret, [(3, V.ptr 2 0 0 0), (4, V.ptr 4 0 0 0), (5, V.c (C.str s5)), (32, V.c (C.sl 3 kn kt ys)), (33, V.c (C.int IntKind.i64 i33)), (34, V.c (C.int IntKind.i64 i34)), (41, V.fn 166 [V.ptr 6 0 0 0, V.ptr 5 0 0 0, V.ptr 7 0 0 0])], [O.box [V.c (C.str q)], O.box [V.c (C.str s), V.c (C.sl 5 rn rt xs), V.c (C.sl 3 kn kt ys)], O.box [V.fn 88 [V.fp [C.str pf]]], O.yo r.tail b, O.box [V.yl 3], O.gone, O.gone, O.gone, O.box [V.c (C.str p), V.c (C.sl 5 nlh8 false zs)]])
abbrev x166u_0v_0n (pf : Bys) (q : Bys) (s : Bys) (rn : OBo) (rt : Bool) (xs : LLC) (kn : OBo) (kt : Bool) (ys : LLC) (r : List (List V)) (b : Bool) (s5 : Bys) (i33 : Int) (i34 : Int) : Ex × Fr × Hp := (Ex.nrm, [(3, V.ptr 2 0 0 0), (4, V.ptr 4 0 0 0), (5, V.c (C.str s5)), (32, V.c (C.sl 3 kn kt ys)), (33, V.c (C.int IntKind.i64 i33)), (34, V.c (C.int IntKind.i64 i34)), (41, V.fn 166 [V.ptr 6 0 0 0, V.ptr 5 0 0 0, V.ptr 7 0 0 0])], [O.box [V.c (C.str q)], O.box [V.c (C.str s), V.c (C.sl 5 rn rt xs), V.c (C.sl 3 kn kt ys)], O.box [V.fn 88 [V.fp [C.str pf]]], O.yo r b, O.box [V.yl 3], O.gone, O.gone, O.gone])
abbrev x166u_0vx0 (pf : Bys) (q : Bys) (s : Bys) (rn : OBo) (rt : Bool) (xs : LLC) (kn : OBo) (kt : Bool) (ys : LLC) (r : List (List V)) (b : Bool) (s5 : Bys) (i33 : Int) (i34 : Int) (p : Bys) (zs : LLC) (nlh8 : OBo) : Ex × Fr × Hp := (Ex.ret, [(3, V.ptr 2 0 0 0), (4, V.ptr 4 0 0 0), (5, V.c (C.str s5)), (32, V.c (C.sl 3 kn kt ys)), (33, V.c (C.int IntKind.i64 i33)), (34, V.c (C.int IntKind.i64 i34)), (41, V.fn 166 [V.ptr 6 0 0 0, V.ptr 5 0 0 0, V.ptr 7 0 0 0])], [O.box [V.c (C.str q)], O.box [V.c (C.str s), V.c (C.sl 5 rn rt xs), V.c (C.sl 3 kn kt ys)], O.box [V.fn 88 [V.fp [C.str pf]]], O.yo r.tail b, O.box [V.yl 3], O.gone, O.gone, O.gone, O.box [V.c (C.str p), V.c (C.sl 5 nlh8 false zs)]])
abbrev x166u_0vx1 (pf : Bys) (q : Bys) (s : Bys) (rn : OBo) (rt : Bool) (xs : LLC) (kn : OBo) (kt : Bool) (ys : LLC) (r : List (List V)) (b : Bool) (s5 : Bys) (i33 : Int) (i34 : Int) : Ex × Fr × Hp := (Ex.exit 0, [(3, V.ptr 2 0 0 0), (4, V.ptr 4 0 0 0), (5, V.c (C.str s5)), (32, V.c (C.sl 3 kn kt ys)), (33, V.c (C.int IntKind.i64 i33)), (34, V.c (C.int IntKind.i64 i34)), (35, V.c (C.bool false))], [O.box [V.c (C.str q)], O.box [V.c (C.str s), V.c (C.sl 5 rn rt xs), V.c (C.sl 3 kn kt ys)], O.box [V.fn 88 [V.fp [C.str pf]]], O.yo r b, O.box [V.yl 3]])
theorem t166u_0v_0 (pf : Bys) (q : Bys) (s : Bys) (rn : OBo) (rt : Bool) (xs : LLC) (kn : OBo) (kt : Bool) (ys : LLC) (r : List (List V)) (b : Bool) (s5 : Bys) (i33 : Int) (i34 : Int) (p : Bys) (zs : LLC) : p166u.rts b166u_0v_0 ([V.agg [V.c (C.str p), V.c (C.sl 5 none false zs)]]) (g166u_0v_0 pf q s rn rt xs kn kt ys r b s5 i33 i34) = (Tr.chk (yoHd r [V.agg [V.c (C.str p), V.c (C.sl 5 none false zs)]]) (Tr.br (!yoAns r b) (Tr.leaf (R.x (x166u_0v_0x0 pf q s rn rt xs kn kt ys r b s5 i33 i34 p zs (none)))) (Tr.leaf (R.s (g166u_0v_0 pf q s rn rt xs kn kt ys (r.tail) b s5 i33 i34))))) := by kernel_rfl
theorem k166u_0v_0n (pf : Bys) (q : Bys) (s : Bys) (rn : OBo) (rt : Bool) (xs : LLC) (kn : OBo) (kt : Bool) (ys : LLC) (r : List (List V)) (b : Bool) (s5 : Bys) (i33 : Int) (i34 : Int) : p166u.lkx b166u_0v 0 (x166u_0v_0n pf q s rn rt xs kn kt ys r b s5 i33 i34) = (Tr.leaf (R.s (s166u_0v pf q s rn rt xs kn kt ys r b s5 i33 (IntKind.i64.wrap (i34 + 1))))) := by kernel_rfl
theorem k166u_0v_0x0 (pf : Bys) (q : Bys) (s : Bys) (rn : OBo) (rt : Bool) (xs : LLC) (kn : OBo) (kt : Bool) (ys : LLC) (r : List (List V)) (b : Bool) (s5 : Bys) (i33 : Int) (i34 : Int) (p : Bys) (zs : LLC) (nlh8 : OBo) : p166u.lkx b166u_0v 0 (x166u_0v_0x0 pf q s rn rt xs kn kt ys r b s5 i33 i34 p zs nlh8) = (Tr.leaf (R.x (x166u_0vx0 pf q s rn rt xs kn kt ys r b s5 i33 i34 p zs nlh8))) := by kernel_rfl
theorem t166u_0v (pf : Bys) (q : Bys) (s : Bys) (rn : OBo) (rt : Bool) (xs : LLC) (kn : OBo) (kt : Bool) (ys : LLC) (r : List (List V)) (b : Bool) (s5 : Bys) (i33 : Int) (i34 : Int) : p166u.lts b166u_0v (s166u_0v pf q s rn rt xs kn kt ys r b s5 i33 i34) = (Tr.br (decide (i34 < i33)) (Tr.chk (decide (0 ≤ i34)) (Tr.chk true (Tr.chk (decide (i34.toNat < ys.length)) (Tr.chk (shOk [Sk.str, Sk.sl 5, Sk.sl 3] (ys.getD i34.toNat [])) (Tr.rs 0 (s166u_0v_0 pf q s rn rt xs kn kt ys r b s5 i33 i34 (((ys.getD i34.toNat []).headD C.pnil).st) (none) false (((ys.getD i34.toNat []).tail.headD C.pnil).xs) (none) false (((ys.getD i34.toNat []).tail.tail.headD C.pnil).xs))))))) (Tr.leaf (R.x (x166u_0vx1 pf q s rn rt xs kn kt ys r b s5 i33 i34)))) := by kernel_rfl
theorem k166u_0vx0 (pf : Bys) (q : Bys) (s : Bys) (rn : OBo) (rt : Bool) (xs : LLC) (kn : OBo) (kt : Bool) (ys : LLC) (r : List (List V)) (b : Bool) (s5 : Bys) (i33 : Int) (i34 : Int) (p : Bys) (zs : LLC) (nlh8 : OBo) : p166u.fkx 0 (x166u_0vx0 pf q s rn rt xs kn kt ys r b s5 i33 i34 p zs nlh8) = (Tr.leaf (R.out [] [O.box [V.c (C.str q)], O.box [V.c (C.str s), V.c (C.sl 5 rn rt xs), V.c (C.sl 3 kn kt ys)], O.box [V.fn 88 [V.fp [C.str pf]]], O.yo r.tail b])) := by kernel_rfl
theorem k166u_0vx1 (pf : Bys) (q : Bys) (s : Bys) (rn : OBo) (rt : Bool) (xs : LLC) (kn : OBo) (kt : Bool) (ys : LLC) (r : List (List V)) (b : Bool) (s5 : Bys) (i33 : Int) (i34 : Int) : p166u.fkx 0 (x166u_0vx1 pf q s rn rt xs kn kt ys r b s5 i33 i34) = (Tr.leaf (R.out [] [O.box [V.c (C.str q)], O.box [V.c (C.str s), V.c (C.sl 5 rn rt xs), V.c (C.sl 3 kn kt ys)], O.box [V.fn 88 [V.fp [C.str pf]]], O.yo r b])) := by kernel_rfl
theorem t166u (pf : Bys) (q : Bys) (s : Bys) (rn : OBo) (rt : Bool) (xs : LLC) (kn : OBo) (kt : Bool) (ys : LLC) (r : List (List V)) (b : Bool) : p166u.ft ([V.yl 3, V.ptr 0 0 0 0, V.ptr 1 0 0 0, V.ptr 2 0 0 0]) ([O.box [V.c (C.str q)], O.box [V.c (C.str s), V.c (C.sl 5 rn rt xs), V.c (C.sl 3 kn kt ys)], O.box [V.fn 88 [V.fp [C.str pf]]], O.yo r b]) = (Tr.chk (decide (q.length + s.length < 4294967296)) (Tr.br (!alU pf (q ++ s)) (Tr.leaf (R.out [] [O.box [V.c (C.str q)], O.box [V.c (C.str s), V.c (C.sl 5 rn rt xs), V.c (C.sl 3 kn kt ys)], O.box [V.fn 88 [V.fp [C.str pf]]], O.yo r b])) (Tr.br (decide (0 < (↑xs.length : Int))) (Tr.chk (decide (xs.length < 4294967296)) (Tr.chk (decide (rn ≠ some true ∨ xs = [])) (Tr.chk (yoHd r [V.agg [V.c (C.str (q ++ s)), V.c (C.sl 5 none false xs)]]) (Tr.br (!yoAns r b) (Tr.leaf (R.out [] [O.box [V.c (C.str q)], O.box [V.c (C.str s), V.c (C.sl 5 rn rt xs), V.c (C.sl 3 kn kt ys)], O.box [V.fn 88 [V.fp [C.str pf]]], O.yo r.tail b])) (Tr.ls 0 (s166u_0 pf q s rn rt xs kn kt ys r b (q ++ s) ((↑ys.length : Int)) (0))))))) (Tr.ls 0 (s166u_0v pf q s rn rt xs kn kt ys r b (q ++ s) ((↑ys.length : Int)) (0)))))) := by kernel_rfl
end Go.Proofs.YtgaabjmbnomimaaDoor
namespace Go.Proofs.YtgaabjmbnomimaaDoor
open Go Go.Ev
theorem f89 (s p : Bys) : call E 89 [.c (.str s), .fp [.str p]] [] = some ([V.b (begins s p)], []) := by
  refine call_of (E := E) (sh := sh) (ct := ctOf [(67, s125)]) (na := 2) (m := 0) (ctOf_cons s125_ok' ctOf_nil) rfl rfl rfl rfl rfl rfl ?_
  rw [t89, fd_leaf]
theorem s89_ok : CSpecOk E 89 s89 := by
  intro a h cs vals h' he hc
  unfold s89 at he
  split at he <;> simp only [Option.some.injEq, Prod.mk.injEq, reduceCtorEq] at he
  obtain ⟨rfl, rfl, rfl⟩ := he
  exact f89 _ _
theorem f88 (s p : Bys) : call E 88 [.c (.str s), .fp [.str p]] [] = some ([V.b (alU p s)], []) := by
  refine call_of (E := E) (sh := sh) (ct := ctOf [(67, s125)]) (na := 2) (m := 0) (ctOf_cons s125_ok' ctOf_nil) rfl rfl rfl rfl rfl rfl ?_
  rw [t88, fd_br, fd_leaf, fd_leaf]
  unfold alU
  cases begins s p <;> rfl
theorem s88_ok : CSpecOk E 88 s88 := by
  intro a h cs vals h' he hc
  unfold s88 at he
  split at he <;> simp only [Option.some.injEq, Prod.mk.injEq, reduceCtorEq] at he
  obtain ⟨rfl, rfl, rfl⟩ := he
  exact f88 _ _
theorem f86 (s p q : Bys) : call E 86 [.c (.str s), .fp [.str p], .fp [.str q]] [] = some ([V.b (alB p q s)], []) := by
  refine call_of (E := E) (sh := sh) (ct := ctOf [(67, s125)]) (na := 3) (m := 0) (ctOf_cons s125_ok' ctOf_nil) rfl rfl rfl rfl rfl rfl ?_
  rw [t86]
  simp only [fd_br, fd_leaf]
  unfold alB
  cases q with
  | nil => cases Op.bytesLess s p <;> cases begins p s <;> rfl
  | cons b q => cases Op.bytesLess s p <;> cases begins p s <;> rfl
theorem s86_ok : CSpecOk E 86 s86 := by
  intro a h cs vals h' he hc
  unfold s86 at he
  split at he <;> simp only [Option.some.injEq, Prod.mk.injEq, reduceCtorEq] at he
  obtain ⟨rfl, rfl, rfl⟩ := he
  exact f86 _ _ _
theorem f87 (s p q : Bys) : call E 87 [.c (.str s), .fp [.str p], .fp [.str q]] [] = some ([V.b (wB p q s)], []) := by
  refine call_of (E := E) (sh := sh) (ct := ctOf []) (na := 3) (m := 0) ctOf_nil rfl rfl rfl rfl rfl rfl ?_
  rw [t87]
  simp only [fd_br, fd_leaf]
  unfold wB
  cases q with
  | nil => cases Op.bytesLess s p <;> rfl
  | cons b q => cases Op.bytesLess s p <;> rfl
theorem s87_ok : CSpecOk E 87 s87 := by
  intro a h cs vals h' he hc
  unfold s87 at he
  split at he <;> simp only [Option.some.injEq, Prod.mk.injEq, reduceCtorEq] at he
  obtain ⟨rfl, rfl, rfl⟩ := he
  exact f87 _ _ _
theorem s134u_ok : CSpecOk E 134 s134u := by
  intro a h cs vals h' he hc
  unfold s134u at he
  split at he <;> simp only [Option.some.injEq, Prod.mk.injEq, reduceCtorEq] at he
  obtain ⟨rfl, rfl, rfl⟩ := he
  refine call_of (E := E) (sh := sh) (ct := ctOf []) (na := 3) (m := 0) ctOf_nil rfl rfl rfl rfl rfl rfl ?_
  rw [show p134u.ft _ _ = _ from t134u _ _ _ _ _ _ _ _ _]; rfl
theorem s134b_ok : CSpecOk E 134 s134b := by
  intro a h cs vals h' he hc
  unfold s134b at he
  split at he <;> simp only [Option.some.injEq, Prod.mk.injEq, reduceCtorEq] at he
  obtain ⟨rfl, rfl, rfl⟩ := he
  refine call_of (E := E) (sh := sh) (ct := ctOf []) (na := 3) (m := 0) ctOf_nil rfl rfl rfl rfl rfl rfl ?_
  rw [show p134b.ft _ _ = _ from t134b _ _ _ _ _ _ _ _ _ _]; rfl
end Go.Proofs.YtgaabjmbnomimaaDoor
