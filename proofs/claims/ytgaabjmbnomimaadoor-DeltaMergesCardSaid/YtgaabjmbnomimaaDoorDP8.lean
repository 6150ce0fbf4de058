/-
  Chapter 11, the reference: paths; Chapter 11, the reference: Merge; Chapter 11 (delta), trees, written by a program: DeltaMerges; Chapter 11 (delta): the laws, but for their arguments' reading: DeltaMerges; Chapter 11 (delta): DeltaMerges at arguments that read as trees.
-/
import Derived.Test.YtgaabjmbnomimaaDoorQP2
import Derived.Test.YtgaabjmbnomimaaDoorDP2
set_option linter.all false
namespace Go.Proofs.YtgaabjmbnomimaaDoor
open Go Go.Ev
theorem insG_drop {x : List (List UInt8)} {k : Nat} (h : k < x.length) (put : Bool) (p : Bys) : insG put p (x.drop k) = cond (!put && !Op.bytesLess x[k] p) [p] [] ++ (cond (x[k] == p) [] [x[k]] ++ insG (put || !Op.bytesLess x[k] p) p (x.drop (k + 1))) := by
  rw [List.drop_eq_getElem_cons h, insG]
theorem ee_mk (e : Ent) (d : C) : Sk.str.mk ((ee e).headD d) = C.str e.1 := rfl
theorem str_mk (p : Bys) (d : C) : Sk.str.mk (([C.str p] : List C).headD d) = C.str p := rfl
theorem str_t1 (p : Bys) : List.take 1 ([C.str p] : List C) = [C.str p] := rfl
theorem strs_take' {l : List (List UInt8)} {n : Nat} (h : n = l.length) : (strs l).take n = strs l := by rw [h]; exact strs_take l
theorem innerA96 (nl : OBo) (tt : Bool) (x : List (List UInt8)) (n2 : OBo) (t2 : Bool) (l : List Ent) (i : Nat) (hi : i < l.length) (hx : x.length < 4294967290) (hl : l.length < 4294967295) :
    p96.ld b96_0 (Tr.ls 0 (s96_0_0 nl tt (strs x) n2 t2 (ents l) i 0 false 0 [])) = some (R.s (sO96 (insG false l[i].1 x).length (strs (insG false l[i].1 x)) n2 t2 (ents l) ((i + 1 : Nat) : Int))) := by
  have hlen := insG_len false l[i].1 x
  simp only [cond_false] at hlen
  have hbnd : ∀ (acc : List (List UInt8)) put k, acc ++ insG put l[i].1 (x.drop k) = insG false l[i].1 x → acc.length + (insG put l[i].1 (x.drop k)).length ≤ x.length + 1 := fun acc put k h => by
    have := congrArg List.length h
    rw [List.length_append] at this; omega
  refine ld_post (p := p96) ctOf_nil (by kernel_rfl) rfl (list_post (p := p96) ctOf_nil (b := b96_0_0) x.length (fun k (s : List (List UInt8) × Bool) => s96_0_0 nl tt (strs x) n2 t2 (ents l) i s.1.length s.2 k (strs s.1)) (fun k s => s.1 ++ insG s.2 l[i].1 (x.drop k) = insG false l[i].1 x) _ ?_ ?_ 0 (Nat.zero_le _) ([], false) rfl)
  · rintro k ⟨acc, put⟩ hk h
    dsimp only at h
    have hb := hbnd acc put k h
    rw [insG_drop hk] at h hb
    left
    refine ⟨(acc ++ (cond (!put && !Op.bytesLess x[k] l[i].1) [l[i].1] [] ++ cond (x[k] == l[i].1) [] [x[k]]), put || !Op.bytesLess x[k] l[i].1), by rw [← h]; simp only [List.append_assoc], ?_⟩
    rw [t96_0_0]
    have h3 : ents l = ents l := rfl
    cases put <;> cases c1 : Op.bytesLess x[k] l[i].1 <;> cases c2 : (x[k] == l[i].1) <;> simp only [c1, c2, Bool.not_true, Bool.not_false, Bool.and_true, Bool.true_and, Bool.and_false, Bool.false_and, cond_true, cond_false, List.length_append, List.length_cons, List.length_nil] at hb <;>
      simp only [ld_br, ld_chk', ld_leaf, fd_br, fd_chk', fd_leaf, decide_true, decide_eq_true_eq, if_true, Int.toNat_natCast, Int.natCast_nonneg, Int.ofNat_lt, Int.ofNat_le, Bool.false_eq_true, if_false, bne_iff_ne, beq_iff_eq, ne_eq, not_true_eq_false, not_false_eq_true, Bool.not_eq_true', decide_eq_false_iff_not, reduceCtorEq, rows_length, pcs_length, er_ok, er_ok', ep_ok, ep_ok', dr_er, dp_ep, isRows_rows, isPcs_pcs, toRows_rows, toPcs_pcs, rows_take, rows_drop, pcs_take, pcs_drop, rows_append, pcs_append, ints_length, isInts_ints, toInts_ints, ei_i, ei_ok, mk_headD, ints_take, ints_drop, ints_append, ints_snoc, ints_snoc', List.take_length, Nat.zero_add, Nat.le_refl, er_a, er_b, er_k, er_n, er_s, er_v, ep_a, ep_b, ep_hk, ep_hn, ep_hs, ep_wk, ep_wn, ep_ws, strs_length, ents_length, hk, hi, strs_getD hk, ents_getD hi, str_ok, str_hd, str_mk, ee_ok, ee_p, ee_mk, c1, c2, Bool.not_true, Bool.not_false, Bool.and_true, Bool.true_and, Bool.and_false, Bool.false_and, Bool.or_true, Bool.true_or, Bool.or_false, Bool.false_or, cond_true, cond_false, Bool.true_eq_false, List.append_nil, List.nil_append,
        strs_take, strs_snoc, strs_take' (show acc.length + 1 = (acc ++ [l[i].1]).length by simp), List.length_append, List.length_cons, List.length_nil, List.singleton_append, List.append_assoc, show acc.length + 1 < 4294967296 by omega, show acc.length + 1 + 1 < 4294967296 by omega, wrap_succ (show k < 9223372036854775807 by omega)] <;> rfl
  · rintro ⟨acc, put⟩ h
    dsimp only at h
    rw [List.drop_length, insG] at h
    have hb : acc.length ≤ x.length + 1 := by
      have := congrArg List.length h
      rw [List.length_append] at this; omega
    refine ⟨x96_0_0x0 nl tt (strs x) n2 t2 (ents l) i acc.length put x.length (strs acc), by simp, ?_, ?_⟩
    · rw [k96_0_0x0, ← h]
      cases put <;> simp only [ld_br, ld_chk', ld_leaf, fd_br, fd_chk', fd_leaf, decide_true, decide_eq_true_eq, if_true, Int.toNat_natCast, Int.natCast_nonneg, Int.ofNat_lt, Int.ofNat_le, Bool.false_eq_true, if_false, bne_iff_ne, beq_iff_eq, ne_eq, not_true_eq_false, not_false_eq_true, Bool.not_eq_true', decide_eq_false_iff_not, reduceCtorEq, rows_length, pcs_length, er_ok, er_ok', ep_ok, ep_ok', dr_er, dp_ep, isRows_rows, isPcs_pcs, toRows_rows, toPcs_pcs, rows_take, rows_drop, pcs_take, pcs_drop, rows_append, pcs_append, ints_length, isInts_ints, toInts_ints, ei_i, ei_ok, mk_headD, ints_take, ints_drop, ints_append, ints_snoc, ints_snoc', List.take_length, Nat.zero_add, Nat.le_refl, er_a, er_b, er_k, er_n, er_s, er_v, ep_a, ep_b, ep_hk, ep_hn, ep_hs, ep_wk, ep_wn, ep_ws, ents_length, hi, ents_getD hi, ee_ok, ee_p, ee_mk, Bool.not_true, Bool.not_false, cond_true, cond_false, List.append_nil, strs_take, strs_snoc, show acc.length + 1 < 4294967296 by omega, wrap_succ (show i < 9223372036854775807 by omega), List.length_append, List.length_cons, List.length_nil] <;> rfl
    · rw [t96_0_0]; simp only [ld_br, ld_chk', ld_leaf, fd_br, fd_chk', fd_leaf, decide_true, decide_eq_true_eq, if_true, Int.toNat_natCast, Int.natCast_nonneg, Int.ofNat_lt, Int.ofNat_le, Bool.false_eq_true, if_false, bne_iff_ne, beq_iff_eq, ne_eq, not_true_eq_false, not_false_eq_true, Bool.not_eq_true', decide_eq_false_iff_not, reduceCtorEq, rows_length, pcs_length, er_ok, er_ok', ep_ok, ep_ok', dr_er, dp_ep, isRows_rows, isPcs_pcs, toRows_rows, toPcs_pcs, rows_take, rows_drop, pcs_take, pcs_drop, rows_append, pcs_append, ints_length, isInts_ints, toInts_ints, ei_i, ei_ok, mk_headD, ints_take, ints_drop, ints_append, ints_snoc, ints_snoc', List.take_length, Nat.zero_add, Nat.le_refl, er_a, er_b, er_k, er_n, er_s, er_v, ep_a, ep_b, ep_hk, ep_hn, ep_hs, ep_wk, ep_wn, ep_ws, strs_length, Int.lt_irrefl]
theorem innerB96 (x : List (List UInt8)) (n2 : OBo) (t2 : Bool) (l : List Ent) (i : Nat) (hi : i < l.length) (hx : x.length < 4294967290) (hl : l.length < 4294967295) :
    p96.ld b96_0 (Tr.ls 0 (sO96_0 x.length (strs x) n2 t2 (ents l) i 0 false 0 [])) = some (R.s (sO96 (insG false l[i].1 x).length (strs (insG false l[i].1 x)) n2 t2 (ents l) ((i + 1 : Nat) : Int))) := by
  have hlen := insG_len false l[i].1 x
  simp only [cond_false] at hlen
  have hbnd : ∀ (acc : List (List UInt8)) put k, acc ++ insG put l[i].1 (x.drop k) = insG false l[i].1 x → acc.length + (insG put l[i].1 (x.drop k)).length ≤ x.length + 1 := fun acc put k h => by
    have := congrArg List.length h
    rw [List.length_append] at this; omega
  refine ld_post (p := p96) ctOf_nil (by kernel_rfl) rfl (list_post (p := p96) ctOf_nil (b := bO96_0) x.length (fun k (s : List (List UInt8) × Bool) => sO96_0 x.length (strs x) n2 t2 (ents l) i s.1.length s.2 k (strs s.1)) (fun k s => s.1 ++ insG s.2 l[i].1 (x.drop k) = insG false l[i].1 x) _ ?_ ?_ 0 (Nat.zero_le _) ([], false) rfl)
  · rintro k ⟨acc, put⟩ hk h
    dsimp only at h
    have hb := hbnd acc put k h
    rw [insG_drop hk] at h hb
    left
    refine ⟨(acc ++ (cond (!put && !Op.bytesLess x[k] l[i].1) [l[i].1] [] ++ cond (x[k] == l[i].1) [] [x[k]]), put || !Op.bytesLess x[k] l[i].1), by rw [← h]; simp only [List.append_assoc], ?_⟩
    rw [tO96_0]
    have hl1 : ([C.str x[k]] : List C).length = 1 := rfl
    cases put <;> cases c1 : Op.bytesLess x[k] l[i].1 <;> cases c2 : (x[k] == l[i].1) <;> simp only [c1, c2, Bool.not_true, Bool.not_false, Bool.and_true, Bool.true_and, Bool.and_false, Bool.false_and, cond_true, cond_false, List.length_append, List.length_cons, List.length_nil] at hb <;>
      simp only [ld_br, ld_chk', ld_leaf, fd_br, fd_chk', fd_leaf, decide_true, decide_eq_true_eq, if_true, Int.toNat_natCast, Int.natCast_nonneg, Int.ofNat_lt, Int.ofNat_le, Bool.false_eq_true, if_false, bne_iff_ne, beq_iff_eq, ne_eq, not_true_eq_false, not_false_eq_true, Bool.not_eq_true', decide_eq_false_iff_not, reduceCtorEq, rows_length, pcs_length, er_ok, er_ok', ep_ok, ep_ok', dr_er, dp_ep, isRows_rows, isPcs_pcs, toRows_rows, toPcs_pcs, rows_take, rows_drop, pcs_take, pcs_drop, rows_append, pcs_append, ints_length, isInts_ints, toInts_ints, ei_i, ei_ok, mk_headD, ints_take, ints_drop, ints_append, ints_snoc, ints_snoc', List.take_length, Nat.zero_add, Nat.le_refl, er_a, er_b, er_k, er_n, er_s, er_v, ep_a, ep_b, ep_hk, ep_hn, ep_hs, ep_wk, ep_wn, ep_ws, cO96_0_1, strs_length, ents_length, hk, hi, strs_getD hk, ents_getD hi, hl1, str_t1, str_ok, str_hd, str_mk, ee_ok, ee_p, ee_mk, c1, c2, Bool.not_true, Bool.not_false, Bool.and_true, Bool.true_and, Bool.and_false, Bool.false_and, Bool.or_true, Bool.true_or, Bool.or_false, Bool.false_or, cond_true, cond_false, Bool.true_eq_false, List.append_nil, List.nil_append,
        strs_take, strs_snoc, strs_take' (show acc.length + 1 = (acc ++ [l[i].1]).length by simp), List.length_append, List.length_cons, List.length_nil, List.singleton_append, List.append_assoc, show acc.length + 1 < 4294967296 by omega, show acc.length + 1 + 1 < 4294967296 by omega, wrap_succ (show k < 9223372036854775807 by omega)] <;> rfl
  · rintro ⟨acc, put⟩ h
    dsimp only at h
    rw [List.drop_length, insG] at h
    have hb : acc.length ≤ x.length + 1 := by
      have := congrArg List.length h
      rw [List.length_append] at this; omega
    refine ⟨xO96_0x0 x.length (strs x) n2 t2 (ents l) i acc.length put x.length (strs acc), by simp, ?_, ?_⟩
    · refine (congrArg _ (kO96_0x0 x.length (strs x) n2 t2 (ents l) i acc.length put x.length (strs acc))).trans ?_
      rw [← h]
      cases put <;> simp only [ld_br, ld_chk', ld_leaf, fd_br, fd_chk', fd_leaf, decide_true, decide_eq_true_eq, if_true, Int.toNat_natCast, Int.natCast_nonneg, Int.ofNat_lt, Int.ofNat_le, Bool.false_eq_true, if_false, bne_iff_ne, beq_iff_eq, ne_eq, not_true_eq_false, not_false_eq_true, Bool.not_eq_true', decide_eq_false_iff_not, reduceCtorEq, rows_length, pcs_length, er_ok, er_ok', ep_ok, ep_ok', dr_er, dp_ep, isRows_rows, isPcs_pcs, toRows_rows, toPcs_pcs, rows_take, rows_drop, pcs_take, pcs_drop, rows_append, pcs_append, ints_length, isInts_ints, toInts_ints, ei_i, ei_ok, mk_headD, ints_take, ints_drop, ints_append, ints_snoc, ints_snoc', List.take_length, Nat.zero_add, Nat.le_refl, er_a, er_b, er_k, er_n, er_s, er_v, ep_a, ep_b, ep_hk, ep_hn, ep_hs, ep_wk, ep_wn, ep_ws, ents_length, hi, ents_getD hi, ee_ok, ee_p, ee_mk, Bool.not_true, Bool.not_false, cond_true, cond_false, List.append_nil, strs_take, strs_snoc, show acc.length + 1 < 4294967296 by omega, wrap_succ (show i < 9223372036854775807 by omega), List.length_append, List.length_cons, List.length_nil] <;> rfl
    · rw [tO96_0]; simp only [ld_br, ld_chk', ld_leaf, fd_br, fd_chk', fd_leaf, decide_true, decide_eq_true_eq, if_true, Int.toNat_natCast, Int.natCast_nonneg, Int.ofNat_lt, Int.ofNat_le, Bool.false_eq_true, if_false, bne_iff_ne, beq_iff_eq, ne_eq, not_true_eq_false, not_false_eq_true, Bool.not_eq_true', decide_eq_false_iff_not, reduceCtorEq, rows_length, pcs_length, er_ok, er_ok', ep_ok, ep_ok', dr_er, dp_ep, isRows_rows, isPcs_pcs, toRows_rows, toPcs_pcs, rows_take, rows_drop, pcs_take, pcs_drop, rows_append, pcs_append, ints_length, isInts_ints, toInts_ints, ei_i, ei_ok, mk_headD, ints_take, ints_drop, ints_append, ints_snoc, ints_snoc', List.take_length, Nat.zero_add, Nat.le_refl, er_a, er_b, er_k, er_n, er_s, er_v, ep_a, ep_b, ep_hk, ep_hn, ep_hs, ep_wk, ep_wn, ep_ws, Int.lt_irrefl]
theorem f96 (nl : OBo) (tt : Bool) (x : List (List UInt8)) (n2 : OBo) (t2 : Bool) (l : List Ent) (hl : x.length + l.length < 4294967290) :
    call E 96 [.c (.sl 1 nl tt (strs x)), .c (.sl 2 n2 t2 (ents l))] [] = some ([.c (.sl 1 none false (strs (pathsF x l)))], []) := by
  refine call_of (E := E) (sh := sh) (ct := ctOf []) (na := 2) (m := 0) ctOf_nil rfl rfl rfl rfl rfl rfl ?_
  rw [t96]
  cases hlc : l with
  | nil =>
    refine fd_post (p := p96) ctOf_nil (by kernel_rfl) rfl (list_post (p := p96) ctOf_nil (b := b96_0) 0 (fun k (_ : Unit) => s96_0 nl tt (strs x) n2 t2 (ents []) k) (fun _ _ => True) _ (fun k _ h => absurd h (Nat.not_lt_zero _)) ?_ 0 (Nat.zero_le _) () trivial)
    intro _ _
    refine ⟨x96_0x0 nl tt (strs x) n2 t2 (ents []) 0, by simp, by rw [k96_0x0, fd_leaf]; rfl, ?_⟩
    rw [t96_0]; rfl
  | cons e r =>
    rw [← hlc]
    have h0 : 0 < l.length := by rw [hlc]; exact Nat.succ_pos _
    -- behind the first entry: an own row
    refine fd_post (p := p96) ctOf_nil (by kernel_rfl) rfl (loops_post (p := p96) ctOf_nil (b := b96_0) (ι := Option (List (List UInt8) × Nat))
      (fun i => match i with | none => s96_0 nl tt (strs x) n2 t2 (ents l) 0 | some (acc, k) => sO96 acc.length (strs acc) n2 t2 (ents l) k)
      (fun i => match i with | none => True | some (acc, k) => k ≤ l.length ∧ acc.length ≤ x.length + k ∧ pathsF acc (l.drop k) = pathsF x l)
      (fun i => match i with | none => l.length + 1 | some (_, k) => l.length - k) _ ?_ none trivial)
    rintro (_ | ⟨acc, k⟩) hp
    · left
      refine ⟨some (insG false l[0].1 x, 1), ⟨h0, by have := insG_len false l[0].1 x; simpa using this, ?_⟩, by dsimp only; omega, ?_⟩
      · have := List.drop_eq_getElem_cons h0
        rw [List.drop_zero] at this
        conv => rhs; rw [this, pathsF]
      · dsimp only
        rw [t96_0, ld_br, if_pos (by rw [ents_length]; exact decide_eq_true (by omega))]
        exact innerA96 nl tt x n2 t2 l 0 h0 (by omega) (by omega)
    · obtain ⟨h1, h2, h3⟩ := hp
      dsimp only
      rcases Nat.lt_or_ge k l.length with hk | hk
      · left
        refine ⟨some (insG false l[k].1 acc, k + 1), ⟨hk, by have := insG_len false l[k].1 acc; simp only [cond_false] at this; omega, ?_⟩, by dsimp only; omega, ?_⟩
        · rw [List.drop_eq_getElem_cons hk, pathsF] at h3; exact h3
        · rw [tO96, ld_br, if_pos (by rw [ents_length]; exact decide_eq_true (by omega))]
          exact innerB96 acc n2 t2 l k hk (by omega) (by omega)
      · right
        have hk2 : k = l.length := by omega
        subst hk2
        rw [List.drop_length, pathsF] at h3
        refine ⟨xO96 acc.length (strs acc) n2 t2 (ents l) l.length, by simp, ?_, ?_⟩
        · refine (congrArg _ (tX96 acc.length (strs acc) n2 t2 (ents l) l.length)).trans ?_
          rw [fd_leaf, strs_take, h3]
        · rw [tO96, ld_br, if_neg (by simp [ents_length])]; rfl
end Go.Proofs.YtgaabjmbnomimaaDoor
namespace Go.Proofs.YtgaabjmbnomimaaDoor
open Go Go.Ev
theorem s96_ok : CSpecOk E 96 s96 := by
  intro a h cs vals h' he hc
  unfold s96 at he
  split at he <;> simp only [Option.some.injEq, Prod.mk.injEq, reduceCtorEq] at he
  rename_i nl tt xs n2 t2 ys
  obtain ⟨rfl, rfl, rfl⟩ := he
  simp only [allT, Bool.and_true, Bool.and_eq_true, decide_eq_true_eq] at hc
  obtain ⟨h1, h2, h3⟩ := hc
  obtain ⟨x, rfl⟩ := strs_ex h1
  obtain ⟨l, rfl⟩ := ents_ex h2
  rw [strs_length, ents_length] at h3
  rw [toStrs_strs, toEs_ents]
  exact f96 nl tt x n2 t2 l h3
theorem s79_ok (dd : Nat) : CSpecOk E 79 (s79 dd) := by
  intro a h cs vals h' he hc
  unfold s79 at he
  split at he <;> simp only [Option.some.injEq, Prod.mk.injEq, reduceCtorEq] at he
  rename_i nl tt xs
  obtain ⟨rfl, rfl, rfl⟩ := he
  simp only [allT, Bool.and_true, Bool.and_eq_true, decide_eq_true_eq] at hc
  obtain ⟨h1, h2, h3⟩ := hc
  obtain ⟨l, rfl⟩ := ents_ex h1
  rw [ents_length] at h2
  rw [toEs_ents] at h3 ⊢
  obtain ⟨t, ht⟩ := hasK_ex h3
  rw [(theK_eq ht).2]
  exact f79 dd nl tt l t (by omega) ht
theorem refE_app (a b c : Nd) (l m : List (List UInt8)) : refE a b c (l ++ m) = refE a b c l ++ refE a b c m := by
  induction l with
  | nil => rfl
  | cons p r ih => rw [List.cons_append, refE, refE, ih, List.append_assoc]
theorem root_ent {t : Nd} (h : okR t = true) : entT t = entP t := by
  obtain ⟨h1, h2, _⟩ := okR_iff.1 h
  rw [entP_R h, entT_eq, h1, h2]
  simp [entR]
theorem root_len (t : Nd) : (entT t).length ≤ (entL t.kids).length + 1 := by
  rw [entT_eq]
  split <;> simp
section
variable (a b c : Nd) (all : List (List UInt8))
abbrev bd44 (i : Nat) : List (List UInt8) := refB a b c (all.take i)
abbrev ou44 (i : Nat) : List Ent := refE a b c (all.take i)
theorem bd_succ {i : Nat} (h : i < all.length) : bd44 a b c all (i + 1) = bd44 a b c all i ++ (if bad3 (getR a all[i]) (getR b all[i]) (getR c all[i]) = true then [all[i]] else []) := by
  unfold bd44 refB
  rw [List.take_succ_eq_append_getElem h, List.filter_append]
  congr 1
  rw [List.filter_cons]; rfl
theorem ou_succ {i : Nat} (h : i < all.length) : ou44 a b c all (i + 1) = ou44 a b c all i ++ (if metQ (getR a all[i]) (getR b all[i]) (getR c all[i]) = [] then [] else [(all[i], metQ (getR a all[i]) (getR b all[i]) (getR c all[i]))]) := by
  unfold ou44
  rw [List.take_succ_eq_append_getElem h, refE_app]
  congr 1
  rw [refE]
  cases metQ (getR a all[i]) (getR b all[i]) (getR c all[i]) <;> simp [refE]
theorem bd_len (i : Nat) : (bd44 a b c all i).length ≤ all.length := Nat.le_trans (List.length_filter_le _ _) (by rw [List.length_take]; omega)
theorem ou_len (i : Nat) : (ou44 a b c all i).length ≤ all.length := Nat.le_trans (refE_len _) (by rw [List.length_take]; omega)
abbrev st44 (i : Nat) : Fr × Hp := s44_0 a.lab (rows a.rows) (encL a.kids) b.lab (rows b.rows) (encL b.kids) c.lab (rows c.rows) (encL c.kids) none false (strs all) (bd44 a b c all i).length (ou44 a b c all i).length i none false none false none false none false none false none false [] (some true) true [] (some true) true [] (strs (bd44 a b c all i)) (ents (ou44 a b c all i))
theorem step44 (dd : Nat) {i : Nat} (h : i < all.length) (hl : all.length < 4294967290) (ha : (entT a).length < 4294967290) (hb : (entT b).length < 4294967290) (hc : (entT c).length < 4294967290) :
    (p44 dd).ld b44_0 ((p44 dd).lts b44_0 (st44 a b c all i)) = some (R.s (st44 a b c all (i + 1))) := by
  have h1 := bd_len a b c all i
  have h2 := ou_len a b c all i
  have hB := bd_succ a b c all h
  have hO := ou_succ a b c all h
  have lA : (getR a all[i]).length ≤ 9223372036854775807 := by rw [getR_P]; exact right_len63 (look_right (gd_entP a) _)
  have lB : (getR b all[i]).length ≤ 9223372036854775807 := by rw [getR_P]; exact right_len63 (look_right (gd_entP b) _)
  have tb : List.take (bd44 a b c all i).length (strs (bd44 a b c all i)) = strs (bd44 a b c all i) := strs_take _
  have te : List.take (ou44 a b c all i).length (ents (ou44 a b c all i)) = ents (ou44 a b c all i) := ents_take _ _ rfl
  have e1 : (bd44 a b c all i).length + 1 < 4294967296 := by omega
  have e2 : (ou44 a b c all i).length + 1 < 4294967296 := by omega
  show _ = some (R.s (s44_0 _ _ _ _ _ _ _ _ _ none false (strs all) (bd44 a b c all (i + 1)).length (ou44 a b c all (i + 1)).length ((i + 1 : Nat) : Int) none false none false none false none false none false none false [] (some true) true [] (some true) true [] (strs (bd44 a b c all (i + 1))) (ents (ou44 a b c all (i + 1)))))
  rw [hB, hO]
  show (p44 dd).ld b44_0 ((p44 dd).lts b44_0 (s44_0 a.lab (rows a.rows) (encL a.kids) b.lab (rows b.rows) (encL b.kids) c.lab (rows c.rows) (encL c.kids) none false (strs all) (bd44 a b c all i).length (ou44 a b c all i).length i none false none false none false none false none false none false [] (some true) true [] (some true) true [] (strs (bd44 a b c all i)) (ents (ou44 a b c all i)))) = _
  rw [t44_0]
  have hw : IntKind.wrap .i64 ((i : Int) + 1) = ((i + 1 : Nat) : Int) := wrap_succ (by omega)
  simp only [c44_0_1, c44_0_2, c44_0_3, c44_0_4, nd_ok, nd_lab, nd_rows, nd_kids, encL_length, isL_enc, decL_enc, wrap_hd, hd_pos, ld_br, ld_chk', ld_leaf, fd_br, fd_chk', fd_leaf, decide_true, decide_eq_true_eq, if_true, Int.toNat_natCast, Int.natCast_nonneg, Int.ofNat_lt, Int.ofNat_le, Bool.false_eq_true, if_false, bne_iff_ne, beq_iff_eq, ne_eq, not_true_eq_false, not_false_eq_true, Bool.not_eq_true', decide_eq_false_iff_not, reduceCtorEq, rows_length, pcs_length, er_ok, er_ok', ep_ok, ep_ok', dr_er, dp_ep, isRows_rows, isPcs_pcs, toRows_rows, toPcs_pcs, rows_take, rows_drop, pcs_take, pcs_drop, rows_append, pcs_append, ints_length, isInts_ints, toInts_ints, ei_i, ei_ok, mk_headD, ints_take, ints_drop, ints_append, ints_snoc, ints_snoc', List.take_length, Nat.zero_add, Nat.le_refl, er_a, er_b, er_k, er_n, er_s, er_v, ep_a, ep_b, ep_hk, ep_hn, ep_hs, ep_wk, ep_wn, ep_ws, Nd.eta, strs_length, h, strs_getD h, str_ok, str_hd, str_mk, ha, hb, hc, lA, lB, e1, e2, hw, tb, te]
  generalize bd44 a b c all i = B0 at *
  generalize ou44 a b c all i = O0 at *
  generalize getR a all[i] = A at *
  generalize getR b all[i] = B at *
  generalize getR c all[i] = C0 at *
  unfold metQ bad3
  have pos : ∀ r : List Row, ((0 : Int) < (r.length : Nat)) ↔ r ≠ [] := fun r => by rw [← List.length_pos_iff]; omega
  by_cases hBC : B = C0
  · subst hBC
    by_cases hn : B = []
    · simp [hn]
    · simp [hn, pos, ents_snoc]
  · by_cases hAB : A = B
    · subst hAB
      by_cases hn : C0 = []
      · simp [hBC, hn]
      · simp [hBC, hn, pos, ents_snoc]
    · by_cases hAC : A = C0
      · subst hAC
        by_cases hn : B = []
        · simp [hBC, hAB, hn]
        · simp [hBC, hAB, hn, pos, ents_snoc]
      · by_cases hn : B = []
        · have k1 : C0 ≠ [] := fun e => hBC (by rw [hn, e])
          have k2 : A ≠ [] := fun e => hAB (by rw [hn, e])
          simp [hAC, hn, k1, k2, strs_snoc]
        · simp [hBC, hAB, hAC, hn, pos, ents_snoc, strs_snoc]
end
theorem hct44 (dd : Nat) : (ctOf [(26, s26), (35, s35), (79, s79 dd), (80, s80), (96, s96), (97, s97)]).ok E :=
  ctOf_cons s26_ok (ctOf_cons s35_ok (ctOf_cons (s79_ok dd) (ctOf_cons s80_ok (ctOf_cons s96_ok (ctOf_cons s97_ok ctOf_nil)))))
theorem node_eta {t : Nd} (h : okR t = true) : Nd.node [] [] t.kids = t := by
  obtain ⟨h1, h2, _⟩ := okR_iff.1 h
  conv => rhs; rw [← Nd.eta t, h1, h2]
theorem f44 (a b c : Nd) (ha : (entL a.kids).length < 1000000000) (hb : (entL b.kids).length < 1000000000) (hc : (entL c.kids).length < 1000000000) :
    call E 44 [VT a, VT b, VT c] [] = some ([VT (mergeP a b c).1, .c (.sl 1 none false (strs (mergeP a b c).2.1)), V.i (mergeP a b c).2.2], []) := by
  refine call_of (E := E) (sh := sh) (ct := ctOf [(26, s26), (35, s35), (79, s79 (depL (mergeT a b c).kids + 1)), (80, s80), (96, s96), (97, s97)]) (na := 3) (m := 0) (hct44 _) rfl rfl rfl rfl rfl rfl ?_
  generalize hdd : depL (mergeT a b c).kids + 1 = dd
  show (p44 dd).fd ((p44 dd).ft [VT a, VT b, VT c] []) = some (.out _ _)
  rw [show (p44 dd).ft [VT a, VT b, VT c] [] = _ from t44 dd _ _ _ _ _ _ _ _ _]
  have la : (entT a).length < 4294967290 := by have := root_len a; omega
  have lb : (entT b).length < 4294967290 := by have := root_len b; omega
  have lc : (entT c).length < 4294967290 := by have := root_len c; omega
  have pa : (entP a).length < 1000000000 := entP_len a ha
  have pb : (entP b).length < 1000000000 := entP_len b hb
  have pc : (entP c).length < 1000000000 := entP_len c hc
  have q1 := pathsF_len (entP a) []
  have q2 := pathsF_len (entP b) (pathsF [] (entP a))
  have q3 := pathsF_len (entP c) (pathsF (pathsF [] (entP a)) (entP b))
  rw [List.length_nil] at q1
  have t0 : toStrs [] = ([] : List (List UInt8)) := rfl
  simp only [c44_1, c44_2, c44_3, toRows_rows, Nd.eta, isRows_rows, isL_enc, decL_enc, fd_br, fd_chk', fd_leaf, if_true, Bool.not_eq_true', la, lb, lc, decide_true]
  unfold mergeP
  by_cases o1 : okR a = false
  · rw [if_pos o1, if_neg (by simp [o1])]; rfl
  rw [if_neg o1]
  by_cases o2 : okR b = false
  · rw [if_pos o2, if_neg (by simp [o2])]; rfl
  rw [if_neg o2]
  by_cases o3 : okR c = false
  · rw [if_pos o3, if_neg (by simp [o3])]; rfl
  rw [if_neg o3]
  rw [Bool.not_eq_false] at o1 o2 o3
  have ho : okR a = true ∧ okR b = true ∧ okR c = true := ⟨o1, o2, o3⟩
  simp only [o1, o2, o3, root_ent o1, root_ent o2, root_ent o3, if_true, isEs_ents, toEs_ents, isStrs_strs, toStrs_strs, ents_length, strs_length, t0, show 0 + (entP a).length < 4294967290 by omega, show (pathsF [] (entP a)).length + (entP b).length < 4294967290 by omega,
    show (pathsF (pathsF [] (entP a)) (entP b)).length + (entP c).length < 4294967290 by omega, decide_true, and_self]
  have hall : (allP a b c).length < 4294967290 := by show (pathsF (pathsF (pathsF [] (entP a)) (entP b)) (entP c)).length < _; omega
  refine fd_post (p := p44 dd) (hct44 dd) (by kernel_rfl) (by split <;> rfl) (list_post (p := p44 dd) (hct44 dd) (b := b44_0) (allP a b c).length (fun i (_ : Unit) => st44 a b c (allP a b c) i) (fun _ _ => True) _ ?_ ?_ 0 (Nat.zero_le _) () trivial)
  · intro i _ hi _
    exact .inl ⟨(), trivial, step44 a b c (allP a b c) dd hi hall la lb lc⟩
  · intro _ _
    have eb : bd44 a b c (allP a b c) (allP a b c).length = badT a b c := by unfold bd44; rw [List.take_length, refB_bad]
    have eo : ou44 a b c (allP a b c) (allP a b c).length = refE a b c (allP a b c) := by unfold ou44; rw [List.take_length]
    refine ⟨x44_0x0 a.lab (rows a.rows) (encL a.kids) b.lab (rows b.rows) (encL b.kids) c.lab (rows c.rows) (encL c.kids) none false (strs (allP a b c)) (badT a b c).length (refE a b c (allP a b c)).length (allP a b c).length none false none false none false none false none false none false [] (some true) true [] (some true) true [] (strs (badT a b c)) (ents (refE a b c (allP a b c))), by simp, ?_, ?_⟩
    · rw [k44_0x0]
      have tb : List.take (badT a b c).length (strs (badT a b c)) = strs (badT a b c) := strs_take _
      have te : List.take (refE a b c (allP a b c)).length (ents (refE a b c (allP a b c))) = ents (refE a b c (allP a b c)) := ents_take _ _ rfl
      by_cases k : badT a b c = []
      · have hm := mergeT_ok a b c
        have hE := refE_ent k
        obtain ⟨b1, b2⟩ := theK_eq (d := dd) (l := refE a b c (allP a b c)) (n := 0) (t := (mergeT a b c).kids) ⟨[], 24, (okR_iff.1 hm).2.2, by simp, by omega, rfl, by rw [hE]; simp [pre', entR]⟩
        have hl : (refE a b c (allP a b c)).length < 4294967295 := by have := refE_len (a := a) (b := b) (c := c) (allP a b c); omega
        have hz : ¬ (0 : Int) < ((badT a b c).length : Nat) := by rw [k]; simp
        have hl' : (refE a b c (allP a b c)).length < 4294967296 := by omega
        simp only [fd_chk', fd_br, fd_leaf, if_true, tb, te, isEs_ents, toEs_ents, ents_length, hz, hl, hl', decide_true, decide_false, Bool.false_eq_true, if_false, b1, b2, if_pos k]
        refine congrArg (fun v => some (R.out [v, V.c (C.sl 1 none false []), V.c (C.int IntKind.i64 0)] [])) ?_
        show VT (Nd.node [] [] (mergeT a b c).kids) = VT (mergeT a b c)
        rw [node_eta hm]
      · have hz : (0 : Int) < ((badT a b c).length : Nat) := by have := List.length_pos_iff.2 k; omega
        simp only [fd_chk', fd_br, fd_leaf, if_true, tb, hz, decide_true, if_neg k]
        rfl
    · show (p44 dd).ld b44_0 ((p44 dd).lts b44_0 (s44_0 a.lab (rows a.rows) (encL a.kids) b.lab (rows b.rows) (encL b.kids) c.lab (rows c.rows) (encL c.kids) none false (strs (allP a b c)) (bd44 a b c (allP a b c) (allP a b c).length).length (ou44 a b c (allP a b c) (allP a b c).length).length (allP a b c).length none false none false none false none false none false none false [] (some true) true [] (some true) true [] (strs (bd44 a b c (allP a b c) (allP a b c).length)) (ents (ou44 a b c (allP a b c) (allP a b c).length)))) = _
      rw [eb, eo, t44_0]
      simp only [ld_br, ld_chk', ld_leaf, fd_br, fd_chk', fd_leaf, decide_true, decide_eq_true_eq, if_true, Int.toNat_natCast, Int.natCast_nonneg, Int.ofNat_lt, Int.ofNat_le, Bool.false_eq_true, if_false, bne_iff_ne, beq_iff_eq, ne_eq, not_true_eq_false, not_false_eq_true, Bool.not_eq_true', decide_eq_false_iff_not, reduceCtorEq, rows_length, pcs_length, er_ok, er_ok', ep_ok, ep_ok', dr_er, dp_ep, isRows_rows, isPcs_pcs, toRows_rows, toPcs_pcs, rows_take, rows_drop, pcs_take, pcs_drop, rows_append, pcs_append, ints_length, isInts_ints, toInts_ints, ei_i, ei_ok, mk_headD, ints_take, ints_drop, ints_append, ints_snoc, ints_snoc', List.take_length, Nat.zero_add, Nat.le_refl, er_a, er_b, er_k, er_n, er_s, er_v, ep_a, ep_b, ep_hk, ep_hn, ep_hs, ep_wk, ep_wn, ep_ws, strs_length, Int.lt_irrefl]
theorem f45 (x : List (List UInt8)) (nl : OBo) (tt : Bool) (nl2 : OBo) (t2 : Bool) (hx : x.length < 4294967296) : call E 45 [.c (.sl 1 nl tt (strs x)), .c (.sl 1 nl2 t2 (strs x))] [] = some ([V.b true], []) := by
  refine call_of (E := E) (sh := sh) (ct := ctOf []) (na := 2) (m := 0) ctOf_nil rfl rfl rfl rfl rfl rfl ?_
  rw [t45, fd_br, bne_self_eq_false, if_neg (by simp)]
  refine fd_post (p := p45) ctOf_nil (by kernel_rfl) rfl (list_post (p := p45) ctOf_nil (b := b45_0) x.length (fun k (_ : Unit) => s45_0 nl tt (strs x) nl2 t2 (strs x) k) (fun _ _ => True) _ ?_ ?_ 0 (Nat.zero_le _) () trivial)
  · intro k _ hk _
    refine .inl ⟨(), trivial, ?_⟩
    rw [t45_0]
    simp only [ld_br, ld_chk', ld_leaf, fd_br, fd_chk', fd_leaf, decide_true, decide_eq_true_eq, if_true, Int.toNat_natCast, Int.natCast_nonneg, Int.ofNat_lt, Int.ofNat_le, Bool.false_eq_true, if_false, bne_iff_ne, beq_iff_eq, ne_eq, not_true_eq_false, not_false_eq_true, Bool.not_eq_true', decide_eq_false_iff_not, reduceCtorEq, rows_length, pcs_length, er_ok, er_ok', ep_ok, ep_ok', dr_er, dp_ep, isRows_rows, isPcs_pcs, toRows_rows, toPcs_pcs, rows_take, rows_drop, pcs_take, pcs_drop, rows_append, pcs_append, ints_length, isInts_ints, toInts_ints, ei_i, ei_ok, mk_headD, ints_take, ints_drop, ints_append, ints_snoc, ints_snoc', List.take_length, Nat.zero_add, Nat.le_refl, er_a, er_b, er_k, er_n, er_s, er_v, ep_a, ep_b, ep_hk, ep_hn, ep_hs, ep_wk, ep_wn, ep_ws, strs_length, hk, strs_getD hk, str_ok, str_hd, beq_self_eq_true, Bool.not_true, wrap_succ (show k < 9223372036854775807 by omega)]
  · intro _ _
    refine ⟨x45_0x1 nl tt (strs x) nl2 t2 (strs x) x.length, by simp, by rw [k45_0x1, fd_leaf], ?_⟩
    rw [t45_0]
    simp only [ld_br, ld_chk', ld_leaf, fd_br, fd_chk', fd_leaf, decide_true, decide_eq_true_eq, if_true, Int.toNat_natCast, Int.natCast_nonneg, Int.ofNat_lt, Int.ofNat_le, Bool.false_eq_true, if_false, bne_iff_ne, beq_iff_eq, ne_eq, not_true_eq_false, not_false_eq_true, Bool.not_eq_true', decide_eq_false_iff_not, reduceCtorEq, rows_length, pcs_length, er_ok, er_ok', ep_ok, ep_ok', dr_er, dp_ep, isRows_rows, isPcs_pcs, toRows_rows, toPcs_pcs, rows_take, rows_drop, pcs_take, pcs_drop, rows_append, pcs_append, ints_length, isInts_ints, toInts_ints, ei_i, ei_ok, mk_headD, ints_take, ints_drop, ints_append, ints_snoc, ints_snoc', List.take_length, Nat.zero_add, Nat.le_refl, er_a, er_b, er_k, er_n, er_s, er_v, ep_a, ep_b, ep_hk, ep_hn, ep_hs, ep_wk, ep_wn, ep_ws, strs_length, Int.lt_irrefl]
end Go.Proofs.YtgaabjmbnomimaaDoor
namespace Go.Proofs.YtgaabjmbnomimaaDoor
open Go Go.Ev
-- cse
def s44 : CSpec := s43
def s45 : CSpec := fun a h => match a, h with
  | [.c (.sl 1 nl tt xs), .c (.sl 1 nl2 t2 ys)], [] => some ([isStrs xs, isStrs ys, decide (toStrs xs = toStrs ys), decide (xs.length < 4294967296)], [V.b true], [])
  | _, _ => none
noncomputable abbrev p10 : Par := par E sh (ctOf [(17, s17n), (41, s41), (42, s42), (43, s43), (44, s44), (45, s45)]) 10 3 0
abbrev c10_1 (s : Bys) (xs : LLC) (ys : LLC) (s2 : Bys) (xs2 : LLC) (ys2 : LLC) (s3 : Bys) (xs3 : LLC) (ys3 : LLC) := (mergeP (Nd.node s (toRows xs) (decL ys)) (Nd.node s2 (toRows xs2) (decL ys2)) (Nd.node s3 (toRows xs3) (decL ys3)))
abbrev c10_2 (s : Bys) (xs : LLC) (ys : LLC) (s2 : Bys) (xs2 : LLC) (ys2 : LLC) (s3 : Bys) (xs3 : LLC) (ys3 : LLC) := (Nd.node (c10_1 s xs ys s2 xs2 ys2 s3 xs3 ys3).fst.lab (toRows (rows (c10_1 s xs ys s2 xs2 ys2 s3 xs3 ys3).fst.rows)) (decL (encL (c10_1 s xs ys s2 xs2 ys2 s3 xs3 ys3).fst.kids)))
theorem t10 (s : Bys) (xs : LLC) (ys : LLC) (s2 : Bys) (xs2 : LLC) (ys2 : LLC) (s3 : Bys) (xs3 : LLC) (ys3 : LLC) : p10.ft ([V.agg [V.c (C.str s), V.c (C.sl 5 none false xs), V.c (C.sl 3 none false ys)], V.agg [V.c (C.str s2), V.c (C.sl 5 none false xs2), V.c (C.sl 3 none false ys2)], V.agg [V.c (C.str s3), V.c (C.sl 5 none false xs3), V.c (C.sl 3 none false ys3)]]) ([]) = (Tr.chk (isRows xs) (Tr.chk (isL ys) (Tr.chk (lensT (Nd.node s (toRows xs) (decL ys))) (Tr.br (!smallD (Nd.node s (toRows xs) (decL ys))) (Tr.leaf (R.out [V.c (C.bool true)] [])) (Tr.chk (isRows xs2) (Tr.chk (isL ys2) (Tr.chk (lensT (Nd.node s2 (toRows xs2) (decL ys2))) (Tr.br (!smallD (Nd.node s2 (toRows xs2) (decL ys2))) (Tr.leaf (R.out [V.c (C.bool true)] [])) (Tr.chk (isRows xs3) (Tr.chk (isL ys3) (Tr.chk (lensT (Nd.node s3 (toRows xs3) (decL ys3))) (Tr.br (!smallD (Nd.node s3 (toRows xs3) (decL ys3))) (Tr.leaf (R.out [V.c (C.bool true)] [])) (Tr.chk (isRows xs) (Tr.chk (isL ys) (Tr.chk (isRows xs2) (Tr.chk (isL ys2) (Tr.chk (isRows xs3) (Tr.chk (isL ys3) (Tr.chk (decide ((entL (decL ys)).length < 1000000000)) (Tr.chk (decide ((entL (decL ys2)).length < 1000000000)) (Tr.chk (decide ((entL (decL ys3)).length < 1000000000)) (Tr.chk (isRows xs) (Tr.chk (isL ys) (Tr.chk (isRows xs2) (Tr.chk (isL ys2) (Tr.chk (isRows xs3) (Tr.chk (isL ys3) (Tr.chk (decide ((entL (decL ys)).length < 1000000000)) (Tr.chk (decide ((entL (decL ys2)).length < 1000000000)) (Tr.chk (decide ((entL (decL ys3)).length < 1000000000)) (Tr.chk (isRows (rows (c10_1 s xs ys s2 xs2 ys2 s3 xs3 ys3).fst.rows)) (Tr.chk (isL (encL (c10_1 s xs ys s2 xs2 ys2 s3 xs3 ys3).fst.kids)) (Tr.chk (isRows (rows (c10_1 s xs ys s2 xs2 ys2 s3 xs3 ys3).fst.rows)) (Tr.chk (isL (encL (c10_1 s xs ys s2 xs2 ys2 s3 xs3 ys3).fst.kids)) (Tr.chk (lensT (c10_2 s xs ys s2 xs2 ys2 s3 xs3 ys3)) (Tr.br (sameT (c10_2 s xs ys s2 xs2 ys2 s3 xs3 ys3) (c10_2 s xs ys s2 xs2 ys2 s3 xs3 ys3)) (Tr.chk (isStrs (strs (c10_1 s xs ys s2 xs2 ys2 s3 xs3 ys3).snd.fst)) (Tr.chk (isStrs (strs (c10_1 s xs ys s2 xs2 ys2 s3 xs3 ys3).snd.fst)) (Tr.chk (decide (toStrs (strs (c10_1 s xs ys s2 xs2 ys2 s3 xs3 ys3).snd.fst) = toStrs (strs (c10_1 s xs ys s2 xs2 ys2 s3 xs3 ys3).snd.fst))) (Tr.chk (decide ((strs (c10_1 s xs ys s2 xs2 ys2 s3 xs3 ys3).snd.fst).length < 4294967296)) (Tr.br true (Tr.br ((c10_1 s xs ys s2 xs2 ys2 s3 xs3 ys3).snd.snd == (c10_1 s xs ys s2 xs2 ys2 s3 xs3 ys3).snd.snd) (Tr.leaf (R.out [V.c (C.bool true)] [])) (Tr.leaf (R.out [V.c (C.bool false)] []))) (Tr.leaf (R.out [V.c (C.bool false)] []))))))) (Tr.leaf (R.out [V.c (C.bool false)] [])))))))))))))))))))))))))))))))))))))) := by kernel_rfl
end Go.Proofs.YtgaabjmbnomimaaDoor
namespace Go.Proofs.YtgaabjmbnomimaaDoor
open Go Go.Ev
theorem s44_ok : CSpecOk E 44 s44 := by
  intro a h cs vals h' he hc
  unfold s44 s43 at he
  split at he <;> simp only [Option.some.injEq, Prod.mk.injEq, reduceCtorEq] at he
  rename_i s xs ys s2 xs2 ys2 s3 xs3 ys3
  obtain ⟨rfl, rfl, rfl⟩ := he
  simp only [allT, Bool.and_true, Bool.and_eq_true, decide_eq_true_eq] at hc
  obtain ⟨h1, h2, h3, h4, h5, h6, h7, h8, h9⟩ := hc
  obtain ⟨rs, rfl⟩ := rows_ex h1
  obtain ⟨ks, rfl⟩ := isL_ex h2
  obtain ⟨rs2, rfl⟩ := rows_ex h3
  obtain ⟨ks2, rfl⟩ := isL_ex h4
  obtain ⟨rs3, rfl⟩ := rows_ex h5
  obtain ⟨ks3, rfl⟩ := isL_ex h6
  simp only [toRows_rows, decL_enc] at *
  exact f44 (.node s rs ks) (.node s2 rs2 ks2) (.node s3 rs3 ks3) h7 h8 h9
theorem s45_ok : CSpecOk E 45 s45 := by
  intro a h cs vals h' he hc
  unfold s45 at he
  split at he <;> simp only [Option.some.injEq, Prod.mk.injEq, reduceCtorEq] at he
  rename_i nl tt xs nl2 t2 ys
  obtain ⟨rfl, rfl, rfl⟩ := he
  simp only [allT, Bool.and_true, Bool.and_eq_true, decide_eq_true_eq] at hc
  obtain ⟨h1, h2, h3, h4⟩ := hc
  obtain ⟨x, rfl⟩ := strs_ex h1
  obtain ⟨y, rfl⟩ := strs_ex h2
  rw [toStrs_strs, toStrs_strs] at h3
  subst h3
  rw [strs_length] at h4
  exact f45 x nl tt nl2 t2 h4
theorem f10 (a b c : Nd) (ha : lensT a = true) (hb : lensT b = true) (hc : lensT c = true) : call E 10 [VT a, VT b, VT c] [] = some ([V.b true], []) := by
  have hct : (ctOf [(17, s17n), (41, s41), (42, s42), (43, s43), (44, s44), (45, s45)]).ok E := ctOf_cons s17n_ok (ctOf_cons s41_ok (ctOf_cons s42_ok (ctOf_cons s43_ok (ctOf_cons s44_ok (ctOf_cons s45_ok ctOf_nil)))))
  refine call_of (E := E) (sh := sh) (ct := ctOf [(17, s17n), (41, s41), (42, s42), (43, s43), (44, s44), (45, s45)]) (na := 3) (m := 0) hct rfl rfl rfl rfl rfl rfl ?_
  show p10.fd (p10.ft [VT a, VT b, VT c] []) = some (.out _ _)
  rw [show p10.ft [VT a, VT b, VT c] [] = _ from t10 _ _ _ _ _ _ _ _ _]
  simp only [c10_1, c10_2, toRows_rows, Nd.eta, isRows_rows, isL_enc, decL_enc, ha, hb, hc, fd_br, fd_chk', fd_leaf, if_true, mergeP_lens, sameT_refl, isStrs_strs, toStrs_strs, strs_length, beq_self_eq_true, decide_true, Bool.not_eq_true']
  by_cases s1 : smallD a = false
  · rw [if_pos s1]
  rw [if_neg s1]
  by_cases s2 : smallD b = false
  · rw [if_pos s2]
  rw [if_neg s2]
  by_cases s3 : smallD c = false
  · rw [if_pos s3]
  rw [if_neg s3]
  rw [Bool.not_eq_false] at s1 s2 s3
  have la := small_ent s1
  have lb := small_ent s2
  have lc := small_ent s3
  have hl : (mergeP a b c).2.1.length < 4294967296 := by
    have := badT_len a b c la lb lc
    unfold mergeP
    split
    · split
      · simp
      · show (badT a b c).length < _; omega
    · simp
  simp only [la, lb, lc, hl, decide_true, if_true]
end Go.Proofs.YtgaabjmbnomimaaDoor
namespace Go.Proofs.YtgaabjmbnomimaaDoor
open Go Go.Ev
theorem l10 (a b c : Lt) : call E 10 [VT a.t, VT b.t, VT c.t] [] = some ([V.b true], []) := f10 a.t b.t c.t a.ok b.ok c.ok
end Go.Proofs.YtgaabjmbnomimaaDoor
