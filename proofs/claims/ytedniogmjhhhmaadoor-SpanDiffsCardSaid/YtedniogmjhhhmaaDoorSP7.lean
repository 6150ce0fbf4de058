/-
  Chapter 02 (span): At, few; the reference's Had, insert, add, done, Same.
-/
import Derived.Test.YtedniogmjhhhmaaDoorSP6
set_option linter.all false
set_option linter.unusedSimpArgs false
set_option linter.unusedVariables false
namespace Go.Proofs.YtedniogmjhhhmaaDoor
open Go Go.Ev

theorem s10_ok : CSpecOk E 10 s10 := by
  intro a h cs vals h' he hc
  unfold s10 at he
  split at he <;> simp only [Option.some.injEq, Prod.mk.injEq, reduceCtorEq] at he
  rename_i nl tt xs
  obtain ⟨rfl, rfl, rfl⟩ := he
  simp only [allT, Bool.and_eq_true, and_true] at hc
  have := f10 (toRows xs) nl tt
  rw [← rows_of hc] at this
  rw [this]
  unfold checkR
  cases right (toRows xs) <;> rfl
theorem s30_ok : CSpecOk E 30 s30 := by
  intro a h cs vals h' he hc
  unfold s30 at he
  split at he <;> simp only [Option.some.injEq, Prod.mk.injEq, reduceCtorEq] at he
  rename_i nl tt xs t
  obtain ⟨rfl, rfl, rfl⟩ := he
  simp only [allT, Bool.and_eq_true, and_true, decide_eq_true_eq] at hc
  have := f30 (toRows xs) nl tt t (by rw [toRows_length]; exact hc.2)
  rwa [← rows_of hc.1] at this
/-- What At tells. -/
def atP (l : List Row) (t : Int) : Val := if right l = true then atR l t else Val.none
theorem checkR_ne (l : List Row) : (checkR l != 0) = !right l := by
  unfold checkR; cases right l <;> rfl
theorem f12 (l : List Row) (nl : Option Bool) (tt : Bool) (t : Int) (hl : l.length ≤ 4294967296) : call E 12 [.c (.sl 5 nl tt (rows l)), V.i t] [] = some ([VV (atP l t), V.b ((atP l t).k != 0)], []) := by
  refine call_of (E := E) (sh := sh) (ct := ctOf [(10, s10), (30, s30)]) (na := 2) (m := 0) (ctOf_cons s10_ok (ctOf_cons s30_ok ctOf_nil)) rfl rfl rfl rfl rfl rfl ?_
  rw [t12]
  simp only [fd_br, fd_chk', fd_leaf, isRows_rows, if_true, toRows_rows, checkR_ne, rows_length, hl, decide_true, Bool.not_eq_true']
  unfold atP
  by_cases h : right l = true
  · simp only [h, if_true, Bool.true_eq_false, if_false]
  · simp only [h, if_false, Bool.not_eq_true] at h ⊢; simp only [h, if_true]; rfl
theorem f46 (l : List Row) (nl : Option Bool) (tt : Bool) : call E 46 [.c (.sl 5 nl tt (rows l))] [] = some ([.c (.sl 5 none false (rows (if l.length ≤ 64 then l else []))), V.i (if l.length ≤ 64 then 0 else 5)], []) := by
  refine call_of (E := E) (sh := sh) (ct := ctOf []) (na := 1) (m := 0) ctOf_nil rfl rfl rfl rfl rfl rfl ?_
  rw [t46]
  simp only [ld_br, ld_chk', ld_leaf, fd_br, fd_chk', fd_leaf, decide_true, decide_eq_true_eq, if_true, Int.toNat_natCast, Int.natCast_nonneg, Int.ofNat_lt, Int.ofNat_le, Bool.false_eq_true, if_false, bne_iff_ne, beq_iff_eq, ne_eq, not_true_eq_false, not_false_eq_true, Bool.not_eq_true', decide_eq_false_iff_not, reduceCtorEq, rows_length, pcs_length, er_ok, er_ok', ep_ok, ep_ok', dr_er, dp_ep, isRows_rows, isPcs_pcs, toRows_rows, toPcs_pcs, rows_take, rows_drop, pcs_take, pcs_drop, rows_append, pcs_append, ints_length, isInts_ints, toInts_ints, ei_i, ei_ok, mk_headD, ints_take, ints_drop, ints_append, ints_snoc, ints_snoc', List.take_length, Nat.zero_add, Nat.le_refl, er_a, er_b, er_k, er_n, er_s, er_v, ep_a, ep_b, ep_hk, ep_hn, ep_hs, ep_wk, ep_wn, ep_ws]
  by_cases h : l.length ≤ 64
  · rw [if_neg (by omega), if_pos h, if_pos h]
  · rw [if_pos (by omega), if_neg h, if_neg h]; rfl
theorem f37 (l : List Row) (nl : Option Bool) (tt : Bool) : call E 37 [.c (.sl 5 nl tt (rows l))] [] = some ([.c (.sl 5 none false (rows (if l.length ≤ 64 then l else []))), V.i (if l.length ≤ 64 then 0 else 5)], []) := by
  refine call_of (E := E) (sh := sh) (ct := ctOf []) (na := 1) (m := 0) ctOf_nil rfl rfl rfl rfl rfl rfl ?_
  rw [t37]
  simp only [ld_br, ld_chk', ld_leaf, fd_br, fd_chk', fd_leaf, decide_true, decide_eq_true_eq, if_true, Int.toNat_natCast, Int.natCast_nonneg, Int.ofNat_lt, Int.ofNat_le, Bool.false_eq_true, if_false, bne_iff_ne, beq_iff_eq, ne_eq, not_true_eq_false, not_false_eq_true, Bool.not_eq_true', decide_eq_false_iff_not, reduceCtorEq, rows_length, pcs_length, er_ok, er_ok', ep_ok, ep_ok', dr_er, dp_ep, isRows_rows, isPcs_pcs, toRows_rows, toPcs_pcs, rows_take, rows_drop, pcs_take, pcs_drop, rows_append, pcs_append, ints_length, isInts_ints, toInts_ints, ei_i, ei_ok, mk_headD, ints_take, ints_drop, ints_append, ints_snoc, ints_snoc', List.take_length, Nat.zero_add, Nat.le_refl, er_a, er_b, er_k, er_n, er_s, er_v, ep_a, ep_b, ep_hk, ep_hn, ep_hs, ep_wk, ep_wn, ep_ws]
  by_cases h : l.length ≤ 64
  · rw [if_neg (by omega), if_pos h, if_pos h]
  · rw [if_pos (by omega), if_neg h, if_neg h]; rfl

/-- What rows have at a time: the first one that holds it. -/
def hadF : List Row → Int → Val
  | [], _ => Val.none
  | x :: r, t => if x.a ≤ t ∧ t < x.b then x.v else hadF r t
theorem f39 (l : List Row) (nl : Option Bool) (tt : Bool) (t : Int) (hl : l.length < 4294967296) : call E 39 [.c (.sl 5 nl tt (rows l)), V.i t] [] = some ([VV (hadF l t)], []) := by
  refine call_of (E := E) (sh := sh) (ct := ctOf []) (na := 2) (m := 0) ctOf_nil rfl rfl rfl rfl rfl rfl ?_
  rw [t39]
  refine fd_post ctOf_nil (by kernel_rfl) rfl (list_post ctOf_nil (b := b39_0) l.length (fun k (_ : Unit) => s39_0 nl tt (rows l) t k 0 0 []) (fun k _ => hadF (l.drop k) t = hadF l t) _ ?_ ?_ 0 (Nat.zero_le _) () (by rfl))
  · intro k _ hk hi
    rw [List.drop_eq_getElem_cons hk, hadF] at hi
    rw [t39_0]
    simp only [ld_br, ld_chk', ld_leaf, fd_br, fd_chk', fd_leaf, decide_true, decide_eq_true_eq, if_true, Int.toNat_natCast, Int.natCast_nonneg, Int.ofNat_lt, Int.ofNat_le, Bool.false_eq_true, if_false, bne_iff_ne, beq_iff_eq, ne_eq, not_true_eq_false, not_false_eq_true, Bool.not_eq_true', decide_eq_false_iff_not, reduceCtorEq, rows_length, pcs_length, er_ok, er_ok', ep_ok, ep_ok', dr_er, dp_ep, isRows_rows, isPcs_pcs, toRows_rows, toPcs_pcs, rows_take, rows_drop, pcs_take, pcs_drop, rows_append, pcs_append, ints_length, isInts_ints, toInts_ints, ei_i, ei_ok, mk_headD, ints_take, ints_drop, ints_append, ints_snoc, ints_snoc', List.take_length, Nat.zero_add, Nat.le_refl, er_a, er_b, er_k, er_n, er_s, er_v, ep_a, ep_b, ep_hk, ep_hn, ep_hs, ep_wk, ep_wn, ep_ws, hk, rows_getD hk, wrap_succ (show k < 9223372036854775807 by omega)]
    by_cases h1 : l[k].a ≤ t
    · by_cases h2 : t < l[k].b
      · refine .inr ⟨x39_0x0 l[k].v.k l[k].v.n l[k].v.s, by simp, ?_, by simp only [h1, h2, if_true]⟩
        rw [k39_0x0, fd_leaf, ← hi, if_pos ⟨h1, h2⟩]
      · exact .inl ⟨(), by rw [← hi, if_neg (by simp [h2])], by simp only [h1, h2, if_true, if_false]⟩
    · exact .inl ⟨(), by rw [← hi, if_neg (by simp [h1])], by simp only [h1, if_false]⟩
  · intro _ hi
    rw [t39_0]
    refine ⟨x39_0x1 nl tt (rows l) t l.length 0 0 [], by simp, ?_, by simp only [ld_br, ld_chk', ld_leaf, fd_br, fd_chk', fd_leaf, decide_true, decide_eq_true_eq, if_true, Int.toNat_natCast, Int.natCast_nonneg, Int.ofNat_lt, Int.ofNat_le, Bool.false_eq_true, if_false, bne_iff_ne, beq_iff_eq, ne_eq, not_true_eq_false, not_false_eq_true, Bool.not_eq_true', decide_eq_false_iff_not, reduceCtorEq, rows_length, pcs_length, er_ok, er_ok', ep_ok, ep_ok', dr_er, dp_ep, isRows_rows, isPcs_pcs, toRows_rows, toPcs_pcs, rows_take, rows_drop, pcs_take, pcs_drop, rows_append, pcs_append, ints_length, isInts_ints, toInts_ints, ei_i, ei_ok, mk_headD, ints_take, ints_drop, ints_append, ints_snoc, ints_snoc', List.take_length, Nat.zero_add, Nat.le_refl, er_a, er_b, er_k, er_n, er_s, er_v, ep_a, ep_b, ep_hk, ep_hn, ep_hs, ep_wk, ep_wn, ep_ws, Nat.lt_irrefl]⟩
    rw [k39_0x1, fd_leaf, ← hi, List.drop_length]; rfl

/-- Numbers that rise, with one more; put: it is there. -/
def insG : List Int → Int → Bool → List Int
  | [], n, put => if put = true then [] else [n]
  | x :: r, n, put => if put = false ∧ n ≤ x then (if x ≠ n then n :: x :: insG r n true else n :: insG r n true) else (if x ≠ n then x :: insG r n put else insG r n put)
theorem insG_len : ∀ (l : List Int) (n : Int) (put : Bool), (insG l n put).length ≤ l.length + 1
  | [], n, put => by cases put <;> simp [insG]
  | x :: r, n, put => by
    have h1 := insG_len r n true
    have h2 := insG_len r n put
    simp only [insG]
    repeat' split
    all_goals simp only [List.length_cons]
    all_goals first | omega | skip
    all_goals (rename_i h _; obtain ⟨rfl, _⟩ := h; have h3 := insG_true r n; omega)
where insG_true : ∀ (l : List Int) (n : Int), (insG l n true).length ≤ l.length
  | [], n => by simp [insG]
  | x :: r, n => by
    have h1 := insG_true r n
    simp only [insG, Bool.true_eq_false, false_and, if_false]
    split <;> simp only [List.length_cons] <;> omega
theorem f57 (l : List Int) (nl : Option Bool) (tt : Bool) (t : Int) (hl : l.length < 4294967280) : call E 57 [.c (.sl 1 nl tt (ints l)), V.i t] [] = some ([.c (.sl 1 none false (ints (insG l t false)))], []) := by
  refine call_of (E := E) (sh := sh) (ct := ctOf []) (na := 2) (m := 0) ctOf_nil rfl rfl rfl rfl rfl rfl ?_
  rw [t57]
  refine fd_post ctOf_nil (by kernel_rfl) rfl (list_post ctOf_nil (b := b57_0) l.length (fun k (s : List Int × Bool) => s57_0 nl tt (ints l) t s.1.length s.2 k (ints s.1)) (fun k s => s.1 ++ insG (l.drop k) t s.2 = insG l t false ∧ s.1.length ≤ k + (cond s.2 1 0)) _ ?_ ?_ 0 (Nat.zero_le _) ([], false) ⟨rfl, by simp⟩)
  · rintro k ⟨acc, put⟩ hk ⟨hi, hlen⟩
    rw [List.drop_eq_getElem_cons hk, insG] at hi
    have hg : (ints l).getD k [] = ei l[k] := by rw [ints_getD hk]; simp [List.getD_eq_getElem?_getD, hk]
    have e1 : acc.length + 1 + 1 < 4294967296 := by cases put <;> simp at hlen <;> omega
    have e2 : acc.length + 1 < 4294967296 := by omega
    rw [t57_0]
    dsimp only at hi hlen ⊢
    have hk' : ∀ m : Int, List.take acc.length (ints acc) = ints acc := fun _ => by rw [← ints_length acc, List.take_length]
    have hk2 : ∀ m : Int, List.take (acc.length + 1) (ints (acc ++ [m])) = ints (acc ++ [m]) := fun m => by
      have : acc.length + 1 = (ints (acc ++ [m])).length := by simp
      rw [this, List.take_length]
    simp only [ld_br, ld_chk', ld_leaf, fd_br, fd_chk', fd_leaf, decide_true, decide_eq_true_eq, if_true, Int.toNat_natCast, Int.natCast_nonneg, Int.ofNat_lt, Int.ofNat_le, Bool.false_eq_true, if_false, bne_iff_ne, beq_iff_eq, ne_eq, not_true_eq_false, not_false_eq_true, Bool.not_eq_true', decide_eq_false_iff_not, reduceCtorEq, rows_length, pcs_length, er_ok, er_ok', ep_ok, ep_ok', dr_er, dp_ep, isRows_rows, isPcs_pcs, toRows_rows, toPcs_pcs, rows_take, rows_drop, pcs_take, pcs_drop, rows_append, pcs_append, ints_length, isInts_ints, toInts_ints, ei_i, ei_ok, mk_headD, ints_take, ints_drop, ints_append, ints_snoc, ints_snoc', List.take_length, Nat.zero_add, Nat.le_refl, er_a, er_b, er_k, er_n, er_s, er_v, ep_a, ep_b, ep_hk, ep_hn, ep_hs, ep_wk, ep_wn, ep_ws, hk, hg, wrap_succ (show k < 9223372036854775807 by omega), hk' 0, e1, e2, hk2]
    cases put with
    | false =>
      by_cases h1 : t ≤ l[k]
      · by_cases h2 : l[k] = t
        · refine .inl ⟨(acc ++ [t], true), ⟨?_, ?_⟩, ?_⟩
          · rw [← hi]; simp [h2]
          · simp at hlen ⊢; omega
          · simp [h2]
        · refine .inl ⟨(acc ++ [t] ++ [l[k]], true), ⟨?_, ?_⟩, ?_⟩
          · rw [← hi]; simp [h1, h2]
          · simp at hlen ⊢; omega
          · simp [h1, h2]
      · by_cases h2 : l[k] = t
        · exact absurd (Int.le_of_eq h2.symm) h1
        · refine .inl ⟨(acc ++ [l[k]], false), ⟨?_, ?_⟩, ?_⟩
          · rw [← hi]; simp [h1, h2]
          · simp at hlen ⊢; omega
          · simp [h1, h2]
    | true =>
      by_cases h2 : l[k] = t
      · refine .inl ⟨(acc, true), ⟨?_, ?_⟩, ?_⟩
        · rw [← hi]; simp [h2]
        · simp at hlen ⊢; omega
        · simp [h2]
      · refine .inl ⟨(acc ++ [l[k]], true), ⟨?_, ?_⟩, ?_⟩
        · rw [← hi]; simp [h2]
        · simp at hlen ⊢; omega
        · simp [h2]
  · rintro ⟨acc, put⟩ ⟨hi, hlen⟩
    rw [t57_0]
    dsimp only at hi hlen ⊢
    refine ⟨x57_0x0 nl tt (ints l) t acc.length put l.length (ints acc), by simp, ?_, by simp only [ld_br, ld_chk', ld_leaf, fd_br, fd_chk', fd_leaf, decide_true, decide_eq_true_eq, if_true, Int.toNat_natCast, Int.natCast_nonneg, Int.ofNat_lt, Int.ofNat_le, Bool.false_eq_true, if_false, bne_iff_ne, beq_iff_eq, ne_eq, not_true_eq_false, not_false_eq_true, Bool.not_eq_true', decide_eq_false_iff_not, reduceCtorEq, rows_length, pcs_length, er_ok, er_ok', ep_ok, ep_ok', dr_er, dp_ep, isRows_rows, isPcs_pcs, toRows_rows, toPcs_pcs, rows_take, rows_drop, pcs_take, pcs_drop, rows_append, pcs_append, ints_length, isInts_ints, toInts_ints, ei_i, ei_ok, mk_headD, ints_take, ints_drop, ints_append, ints_snoc, ints_snoc', List.take_length, Nat.zero_add, Nat.le_refl, er_a, er_b, er_k, er_n, er_s, er_v, ep_a, ep_b, ep_hk, ep_hn, ep_hs, ep_wk, ep_wn, ep_ws, Nat.lt_irrefl]⟩
    have e2 : acc.length + 1 < 4294967296 := by cases put <;> simp at hlen <;> omega
    have hk' : List.take acc.length (ints acc) = ints acc := by rw [← ints_length acc, List.take_length]
    have hk2 : List.take (acc.length + 1) (ints (acc ++ [t])) = ints (acc ++ [t]) := by
      have : acc.length + 1 = (ints (acc ++ [t])).length := by simp
      rw [this, List.take_length]
    rw [k57_0x0, ← hi, List.drop_length]
    simp only [ld_br, ld_chk', ld_leaf, fd_br, fd_chk', fd_leaf, decide_true, decide_eq_true_eq, if_true, Int.toNat_natCast, Int.natCast_nonneg, Int.ofNat_lt, Int.ofNat_le, Bool.false_eq_true, if_false, bne_iff_ne, beq_iff_eq, ne_eq, not_true_eq_false, not_false_eq_true, Bool.not_eq_true', decide_eq_false_iff_not, reduceCtorEq, rows_length, pcs_length, er_ok, er_ok', ep_ok, ep_ok', dr_er, dp_ep, isRows_rows, isPcs_pcs, toRows_rows, toPcs_pcs, rows_take, rows_drop, pcs_take, pcs_drop, rows_append, pcs_append, ints_length, isInts_ints, toInts_ints, ei_i, ei_ok, mk_headD, ints_take, ints_drop, ints_append, ints_snoc, ints_snoc', List.take_length, Nat.zero_add, Nat.le_refl, er_a, er_b, er_k, er_n, er_s, er_v, ep_a, ep_b, ep_hk, ep_hn, ep_hs, ep_wk, ep_wn, ep_ws, e2, hk', hk2]
    cases put <;> simp [insG]
end Go.Proofs.YtedniogmjhhhmaaDoor
