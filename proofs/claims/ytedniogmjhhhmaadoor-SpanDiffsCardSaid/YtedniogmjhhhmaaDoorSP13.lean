/-
  Chapter 02 (span): Apply; the reference's Put, Cut, At, Check, Clip, Diff, Apply.
-/
import Derived.Test.YtedniogmjhhhmaaDoorST8
import Derived.Test.YtedniogmjhhhmaaDoorSM2
set_option linter.all false
set_option linter.unusedSimpArgs false
set_option linter.unusedVariables false
namespace Go.Proofs.YtedniogmjhhhmaaDoor
open Go Go.Ev

theorem toPcs_length (xs : List (List C)) : (toPcs xs).length = xs.length := by simp [toPcs]
theorem f13' (x y : List Row) (nl : Option Bool) (tt : Bool) (nl2 : Option Bool) (t2 : Bool) : call E 13 [.c (.sl 5 nl tt (rows x)), .c (.sl 5 nl2 t2 (rows y))] [] = some ([.c (.sl 8 none false (pcs (diffR x y)))], []) := f13 x y nl tt nl2 t2
theorem s40_ok : CSpecOk E 40 s40 := by
  intro a h cs vals h' he hc
  unfold s40 at he
  split at he <;> simp only [Option.some.injEq, Prod.mk.injEq, reduceCtorEq] at he
  rename_i nl tt xs
  obtain ⟨rfl, rfl, rfl⟩ := he
  simp only [allT, Bool.and_eq_true, and_true, decide_eq_true_eq] at hc
  have := f40 (toPcs xs) nl tt (by rw [toPcs_length]; exact hc.2)
  rwa [← pcs_of hc.1] at this
theorem s47_ok : CSpecOk E 47 s47 := by
  intro a h cs vals h' he hc
  unfold s47 at he
  split at he <;> simp only [Option.some.injEq, Prod.mk.injEq, reduceCtorEq] at he
  rename_i nl tt xs
  obtain ⟨rfl, rfl, rfl⟩ := he
  simp only [allT, Bool.and_eq_true, and_true, decide_eq_true_eq] at hc
  have := f47 (toPcs xs) nl tt (by rw [toPcs_length]; exact hc.2)
  rwa [← pcs_of hc.1] at this
theorem s43_ok : CSpecOk E 43 s43 := by
  intro a h cs vals h' he hc
  unfold s43 at he
  split at he <;> simp only [Option.some.injEq, Prod.mk.injEq, reduceCtorEq] at he
  rename_i nl tt xs a b k m s k2 m2 s2
  obtain ⟨rfl, rfl, rfl⟩ := he
  simp only [allT, Bool.and_eq_true, and_true, decide_eq_true_eq] at hc
  have := f43 (toRows xs) nl tt ⟨a, b, ⟨k, m, s⟩, ⟨k2, m2, s2⟩⟩ (by rw [toRows_length]; exact hc.2)
  rwa [← rows_of hc.1] at this
theorem s48_ok : CSpecOk E 48 s48 := by
  intro a h cs vals h' he hc
  unfold s48 at he
  split at he <;> simp only [Option.some.injEq, Prod.mk.injEq, reduceCtorEq] at he
  rename_i nl tt xs a b k m s k2 m2 s2
  obtain ⟨rfl, rfl, rfl⟩ := he
  simp only [allT, Bool.and_eq_true, and_true, decide_eq_true_eq] at hc
  have := f48 (toRows xs) nl tt ⟨a, b, ⟨k, m, s⟩, ⟨k2, m2, s2⟩⟩ (by rw [toRows_length]; exact hc.2)
  rwa [← rows_of hc.1] at this
theorem s42_ok : CSpecOk E 42 s42 := by
  intro a h cs vals h' he hc
  unfold s42 at he
  split at he <;> simp only [Option.some.injEq, Prod.mk.injEq, reduceCtorEq] at he
  rename_i a b k m s k2 m2 s2 nl tt xs
  obtain ⟨rfl, rfl, rfl⟩ := he
  simp only [allT, Bool.and_eq_true, and_true, decide_eq_true_eq] at hc
  refine call_of (E := E) (sh := sh) (ct := ctOf [(43, s43)]) (na := 2) (m := 1) (ctOf_cons s43_ok ctOf_nil) rfl rfl rfl rfl rfl rfl ?_
  rw [t42]
  simp only [fd_chk', fd_leaf, hc.1, hc.2, decide_true, if_true]
theorem s60_ok : CSpecOk E 60 s60 := by
  have hct : (ctOf [(42, s42)]).ok E := ctOf_cons s42_ok ctOf_nil
  have key : ∀ (l : List Row) (d : List Piece) (nl : Option Bool) (tt : Bool) (nl2 : Option Bool) (t2 : Bool), l.length < 1000000 → d.length < 4294967296 → call E 60 [.c (.sl 8 nl2 t2 (pcs d)), .fn 42 [.ptr 0 0 0 0]] [.box [.c (.sl 5 nl tt (rows l))]] = some ([V.i (firstBad l 0 d)], [.box [.c (.sl 5 nl tt (rows l))]]) := by
    intro l d nl tt nl2 t2 hl hd
    refine call_of (E := E) (sh := sh) (ct := ctOf [(42, s42)]) (na := 2) (m := 1) hct rfl rfl rfl rfl rfl rfl ?_
    rw [t60, pcs_length]
    refine fd_post hct (by kernel_rfl) rfl (list_post hct (b := b60_0) d.length (fun k (_ : Unit) => s60_0 nl tt (rows l) nl2 t2 (pcs d) d.length k) (fun k _ => firstBad l k (d.drop k) = firstBad l 0 d) _ ?_ ?_ 0 (Nat.zero_le _) () (by rfl))
    · intro k _ hk hi
      rw [List.drop_eq_getElem_cons hk] at hi
      simp only [firstBad] at hi
      rw [t60_0]
      simp only [ld_br, ld_chk', ld_leaf, fd_br, fd_chk', fd_leaf, decide_true, decide_eq_true_eq, if_true, Int.toNat_natCast, Int.natCast_nonneg, Int.ofNat_lt, Int.ofNat_le, Bool.false_eq_true, if_false, bne_iff_ne, beq_iff_eq, ne_eq, not_true_eq_false, not_false_eq_true, Bool.not_eq_true', decide_eq_false_iff_not, reduceCtorEq, rows_length, pcs_length, er_ok, er_ok', ep_ok, ep_ok', dr_er, dp_ep, isRows_rows, isPcs_pcs, toRows_rows, toPcs_pcs, rows_take, rows_drop, pcs_take, pcs_drop, rows_append, pcs_append, ints_length, isInts_ints, toInts_ints, ei_i, ei_ok, mk_headD, ints_take, ints_drop, ints_append, ints_snoc, ints_snoc', List.take_length, Nat.zero_add, Nat.le_refl, er_a, er_b, er_k, er_n, er_s, er_v, ep_a, ep_b, ep_hk, ep_hn, ep_hs, ep_wk, ep_wn, ep_ws, hk, pcs_getD hk, wrap_succ (show k < 9223372036854775807 by omega), val_eta, hl]
      have eta : (⟨d[k].a, d[k].b, d[k].h, d[k].w⟩ : Piece) = d[k] := rfl
      simp only [eta]
      cases hh : holdsC l d[k] with
      | true => left; rw [hh, if_pos rfl] at hi; exact ⟨(), hi, by simp⟩
      | false =>
        right
        rw [hh, if_neg Bool.false_ne_true] at hi
        refine ⟨x60_0x0 nl tt (rows l) k, by simp, ?_, by simp⟩
        rw [k60_0x0, fd_leaf, ← hi]
    · intro _ hi
      rw [List.drop_length] at hi
      simp only [firstBad] at hi
      rw [t60_0]
      refine ⟨x60_0x1 nl tt (rows l) nl2 t2 (pcs d) d.length d.length, by simp, ?_, by simp only [ld_br, ld_chk', ld_leaf, fd_br, fd_chk', fd_leaf, decide_true, decide_eq_true_eq, if_true, Int.toNat_natCast, Int.natCast_nonneg, Int.ofNat_lt, Int.ofNat_le, Bool.false_eq_true, if_false, bne_iff_ne, beq_iff_eq, ne_eq, not_true_eq_false, not_false_eq_true, Bool.not_eq_true', decide_eq_false_iff_not, reduceCtorEq, rows_length, pcs_length, er_ok, er_ok', ep_ok, ep_ok', dr_er, dp_ep, isRows_rows, isPcs_pcs, toRows_rows, toPcs_pcs, rows_take, rows_drop, pcs_take, pcs_drop, rows_append, pcs_append, ints_length, isInts_ints, toInts_ints, ei_i, ei_ok, mk_headD, ints_take, ints_drop, ints_append, ints_snoc, ints_snoc', List.take_length, Nat.zero_add, Nat.le_refl, er_a, er_b, er_k, er_n, er_s, er_v, ep_a, ep_b, ep_hk, ep_hn, ep_hs, ep_wk, ep_wn, ep_ws, Int.lt_irrefl]⟩
      rw [k60_0x1, fd_leaf, ← hi]
  intro a h cs vals h' he hc
  unfold s60 at he
  split at he <;> simp only [Option.some.injEq, Prod.mk.injEq, reduceCtorEq] at he
  rename_i nl2 t2 ys nl tt xs
  obtain ⟨rfl, rfl, rfl⟩ := he
  simp only [allT, Bool.and_eq_true, and_true, decide_eq_true_eq] at hc
  obtain ⟨h1, h2, h3, h4⟩ := hc
  have := key (toRows xs) (toPcs ys) nl tt nl2 t2 (by rw [toRows_length]; exact h3) (by rw [toPcs_length]; exact h4)
  rwa [← rows_of h1, ← pcs_of h2] at this
theorem s41_ok : CSpecOk E 41 s41 := by
  intro a h cs vals h' he hc
  unfold s41 at he
  split at he <;> simp only [Option.some.injEq, Prod.mk.injEq, reduceCtorEq] at he
  rename_i nl2 t2 ys nl tt xs
  obtain ⟨rfl, rfl, rfl⟩ := he
  simp only [allT, Bool.and_eq_true, and_true, decide_eq_true_eq] at hc
  obtain ⟨h1, h2, h3, h4⟩ := hc
  refine call_of (E := E) (sh := sh) (ct := ctOf [(60, s60)]) (na := 2) (m := 1) (ctOf_cons s60_ok ctOf_nil) rfl rfl rfl rfl rfl rfl ?_
  rw [t41]
  simp only [fd_chk', fd_leaf, h1, h2, h3, h4, decide_true, if_true]
theorem s44_ok : CSpecOk E 44 s44 := by
  intro a h cs vals h' he hc
  unfold s44 at he
  split at he <;> simp only [Option.some.injEq, Prod.mk.injEq, reduceCtorEq] at he
  rename_i xs
  obtain ⟨rfl, rfl, rfl⟩ := he
  simp only [allT, Bool.and_true, decide_eq_true_eq] at hc
  cases xs with
  | nil =>
    refine call_split' (E := E) (a1 := [.c (.sl 5 (some true) true [])]) (a2 := [.c (.sl 5 (some false) false [])]) rfl rfl rfl rfl rfl ?_ ?_ rfl
    · refine call_of (E := E) (sh := sh) (ct := ctOf []) (na := 1) (m := 0) ctOf_nil rfl rfl rfl rfl rfl rfl ?_
      rw [t44n []]; rfl
    · refine call_of (E := E) (sh := sh) (ct := ctOf []) (na := 1) (m := 0) ctOf_nil rfl rfl rfl rfl rfl rfl ?_
      rw [t44]; rfl
  | cons x r =>
    refine call_of (E := E) (sh := sh) (ct := ctOf []) (na := 1) (m := 0) ctOf_nil rfl rfl rfl rfl rfl rfl ?_
    rw [t44c]
    simp only [List.length_cons] at hc
    simp [fd_br, fd_chk', fd_leaf, hc]
/-! ## Apply -/
def applyG (l : List Row) : List Piece → List Row
  | [] => l
  | p :: r => applyG (overR l p.a p.b p.w) r
def allHold (l : List Row) (d : List Piece) : Bool := d.all fun p => holdsC l p
def applyR (l : List Row) (d : List Piece) : List Row := if right l = true ∧ piecesG 0 d = true then (if allHold l d = true then fewR (applyG l d) else []) else []
def applyE (l : List Row) (d : List Piece) : Int := if right l = true ∧ piecesG 0 d = true then (if allHold l d = true then fewE (applyG l d) else 19) else 2
theorem firstBad_iff (l : List Row) : ∀ (d : List Piece) (k : Nat), 0 ≤ firstBad l k d ↔ ¬ allHold l d = true
  | [], k => by simp [firstBad, allHold]
  | p :: r, k => by
    have ih := firstBad_iff l r (k + 1)
    simp only [allHold, List.all_cons] at ih ⊢
    rw [firstBad]
    by_cases h : holdsC l p = true
    · rw [if_pos h, ih, h, Bool.true_and]
    · rw [if_neg h]; simp [h]
theorem firstBad_neg (l : List Row) (d : List Piece) (k : Nat) : decide (0 ≤ firstBad l k d) = !allHold l d := by
  rw [Bool.eq_iff_iff, decide_eq_true_eq, firstBad_iff]; simp
theorem pieces_span : ∀ {d : List Piece} {e : Int}, piecesG e d = true → ∀ p ∈ d, p.a < p.b
  | [], _, _, p, hp => by simp at hp
  | q :: r, e, h, p, hp => by
    simp only [piecesG, Bool.and_eq_true] at h
    rcases List.mem_cons.1 hp with rfl | hp
    · have := h.1.1.1.1.1
      simp only [isSpan, Bool.and_eq_true, decide_eq_true_eq] at this
      exact this.1.2
    · exact pieces_span h.2 p hp
theorem f23 (l : List Row) (d : List Piece) (nl2 : Option Bool) (t2 : Bool) (hd : d.length < 10000) : call E 23 [.c (.sl 5 none false (rows l)), .c (.sl 8 nl2 t2 (pcs d))] [] = some ([.c (.sl 5 none false (rows (applyR l d))), V.i (applyE l d)], []) := by
  have hct : (ctOf [(10, s10), (40, s40), (41, s41), (44, s44), (45, s45), (46, s46)]).ok E := ctOf_cons s10_ok (ctOf_cons s40_ok (ctOf_cons s41_ok (ctOf_cons s44_ok (ctOf_cons s45_ok (ctOf_cons s46_ok ctOf_nil)))))
  refine call_of (E := E) (sh := sh) (ct := ctOf [(10, s10), (40, s40), (41, s41), (44, s44), (45, s45), (46, s46)]) (na := 2) (m := 0) hct rfl rfl rfl rfl rfl rfl ?_
  rw [t23]
  simp only [fd_br, fd_chk', fd_leaf, isRows_rows, isPcs_pcs, if_true, toRows_rows, toPcs_pcs, checkR_ne, Bool.not_eq_true', pcs_length, rows_length, firstBad_neg]
  unfold applyR applyE
  cases hr : right l
  · simp; rfl
  have hl := right_len hr
  have hok := right_okN hr
  simp only [Bool.true_eq_false, if_false, show d.length < 4294967296 by omega, decide_true, if_true, true_and]
  cases hp : piecesG 0 d
  · simp; rfl
  have hsp := pieces_span hp
  simp only [Bool.true_eq_false, if_false, if_true, show l.length < 1000000 by omega, show l.length < 4294967296 by omega, decide_true]
  cases hh : allHold l d
  · simp; rfl
  simp only [Bool.true_eq_false, if_false, if_true]
  refine fd_post hct (by kernel_rfl) rfl (list_post hct (b := b23_0) d.length (fun k (s : List Row) => s23_0 (rows s) nl2 t2 (pcs d) none false d.length k) (fun k s => applyG s (d.drop k) = applyG l d ∧ okN none s ∧ s.length ≤ 64 + 2 * k) _ ?_ ?_ 0 (Nat.zero_le _) l ⟨rfl, hok, by omega⟩)
  · rintro k s hk ⟨hi, h1, h2⟩
    rw [List.drop_eq_getElem_cons hk, applyG] at hi
    obtain ⟨g1, g2, g3⟩ := overR_sem h1 (hsp d[k] (List.getElem_mem hk)) d[k].w
    have c1 : s.length < 1000000 := by omega
    rw [t23_0]
    simp only [ld_br, ld_chk', ld_leaf, fd_br, fd_chk', fd_leaf, decide_true, decide_eq_true_eq, if_true, Int.toNat_natCast, Int.natCast_nonneg, Int.ofNat_lt, Int.ofNat_le, Bool.false_eq_true, if_false, bne_iff_ne, beq_iff_eq, ne_eq, not_true_eq_false, not_false_eq_true, Bool.not_eq_true', decide_eq_false_iff_not, reduceCtorEq, rows_length, pcs_length, er_ok, er_ok', ep_ok, ep_ok', dr_er, dp_ep, isRows_rows, isPcs_pcs, toRows_rows, toPcs_pcs, rows_take, rows_drop, pcs_take, pcs_drop, rows_append, pcs_append, ints_length, isInts_ints, toInts_ints, ei_i, ei_ok, mk_headD, ints_take, ints_drop, ints_append, ints_snoc, ints_snoc', List.take_length, Nat.zero_add, Nat.le_refl, er_a, er_b, er_k, er_n, er_s, er_v, ep_a, ep_b, ep_hk, ep_hn, ep_hs, ep_wk, ep_wn, ep_ws, hk, pcs_getD hk, wrap_succ (show k < 9223372036854775807 by omega), val_eta, c1]
    exact .inl ⟨overR s d[k].a d[k].b d[k].w, ⟨hi, g1, by omega⟩, rfl⟩
  · rintro s ⟨hi, h1, h2⟩
    rw [t23_0]
    refine ⟨x23_0x0 (rows s) nl2 t2 (pcs d) none false d.length d.length, by simp, ?_, by simp only [ld_br, ld_chk', ld_leaf, fd_br, fd_chk', fd_leaf, decide_true, decide_eq_true_eq, if_true, Int.toNat_natCast, Int.natCast_nonneg, Int.ofNat_lt, Int.ofNat_le, Bool.false_eq_true, if_false, bne_iff_ne, beq_iff_eq, ne_eq, not_true_eq_false, not_false_eq_true, Bool.not_eq_true', decide_eq_false_iff_not, reduceCtorEq, rows_length, pcs_length, er_ok, er_ok', ep_ok, ep_ok', dr_er, dp_ep, isRows_rows, isPcs_pcs, toRows_rows, toPcs_pcs, rows_take, rows_drop, pcs_take, pcs_drop, rows_append, pcs_append, ints_length, isInts_ints, toInts_ints, ei_i, ei_ok, mk_headD, ints_take, ints_drop, ints_append, ints_snoc, ints_snoc', List.take_length, Nat.zero_add, Nat.le_refl, er_a, er_b, er_k, er_n, er_s, er_v, ep_a, ep_b, ep_hk, ep_hn, ep_hs, ep_wk, ep_wn, ep_ws, Int.lt_irrefl]⟩
    rw [List.drop_length, applyG] at hi
    rw [k23_0x0, ← hi]
    simp only [fd_chk', fd_leaf, isRows_rows, if_true, toRows_rows]

/-! ## the reference -/
theorem s34_ok : CSpecOk E 34 s34 := by
  intro a h cs vals h' he hc
  unfold s34 at he
  split at he <;> simp only [Option.some.injEq, Prod.mk.injEq, reduceCtorEq] at he
  rename_i nl tt xs
  obtain ⟨rfl, rfl, rfl⟩ := he
  simp only [allT, Bool.and_true, decide_eq_true_eq] at hc
  have := f34 (toRows xs) nl tt
  rwa [← rows_of hc] at this
theorem s38_ok : CSpecOk E 38 s38 := by
  intro a h cs vals h' he hc
  unfold s38 at he
  split at he <;> simp only [Option.some.injEq, Prod.mk.injEq, reduceCtorEq] at he
  rename_i nl tt xs a b k m s
  obtain ⟨rfl, rfl, rfl⟩ := he
  simp only [allT, Bool.and_eq_true, and_true, decide_eq_true_eq] at hc
  have := f38 (toRows xs) nl tt a b ⟨k, m, s⟩ (by rw [toRows_length]; exact hc.2)
  rwa [← rows_of hc.1] at this
theorem isSpan_lt {a b : Int} (h : isSpan a b = true) : a < b := by
  simp only [isSpan, Bool.and_eq_true, decide_eq_true_eq] at h; exact h.1.2
theorem f18 (l : List Row) (nl : Option Bool) (tt : Bool) (a b : Int) (v : Val) : call E 18 [.c (.sl 5 nl tt (rows l)), V.i a, V.i b, VV v] [] = some ([.c (.sl 5 none false (rows (putR l a b v))), V.i (putE l a b v)], []) := by
  obtain ⟨k, m, s⟩ := v
  refine call_of (E := E) (sh := sh) (ct := ctOf [(34, s34), (35, s35), (36, s36), (38, s38), (37, s37)]) (na := 4) (m := 0) (ctOf_cons s34_ok (ctOf_cons s35_ok (ctOf_cons s36_ok (ctOf_cons s38_ok (ctOf_cons s37_ok ctOf_nil))))) rfl rfl rfl rfl rfl rfl ?_
  rw [t18]
  simp only [fd_br, fd_chk', fd_leaf, isRows_rows, if_true, toRows_rows, Bool.not_eq_true', rows_length, valR_eq, decide_eq_true_eq, decide_eq_false_iff_not]
  unfold putR putE turnR turnE
  cases hr : right l
  · by_cases h : checkV ⟨k, m, s⟩ = 0
    · simp [h]; rfl
    · simp [h]; rfl
  · by_cases h : checkV ⟨k, m, s⟩ = 0
    · cases h2 : isSpan a b
      · simp [h]; rfl
      · have := right_len hr
        rw [over_eq (right_okN hr) (isSpan_lt h2)]
        simp [h, show l.length < 100000 by omega]
    · simp [h]; rfl
theorem f19 (l : List Row) (nl : Option Bool) (tt : Bool) (a b : Int) : call E 19 [.c (.sl 5 nl tt (rows l)), V.i a, V.i b] [] = some ([.c (.sl 5 none false (rows (turnR l a b Val.none))), V.i (turnE l a b Val.none)], []) := by
  refine call_of (E := E) (sh := sh) (ct := ctOf [(34, s34), (35, s35), (36, s36), (38, s38), (37, s37)]) (na := 3) (m := 0) (ctOf_cons s34_ok (ctOf_cons s35_ok (ctOf_cons s36_ok (ctOf_cons s38_ok (ctOf_cons s37_ok ctOf_nil))))) rfl rfl rfl rfl rfl rfl ?_
  rw [t19]
  have hn : (⟨0, 0, []⟩ : Val) = Val.none := rfl
  simp only [fd_br, fd_chk', fd_leaf, isRows_rows, if_true, toRows_rows, Bool.not_eq_true', rows_length, decide_eq_true_eq, hn]
  unfold turnR turnE
  cases hr : right l
  · simp; rfl
  · cases h2 : isSpan a b
    · simp; rfl
    · have := right_len hr
      rw [over_eq (right_okN hr) (isSpan_lt h2)]
      simp [show l.length < 100000 by omega]
theorem f20 (l : List Row) (nl : Option Bool) (tt : Bool) (t : Int) : call E 20 [.c (.sl 5 nl tt (rows l)), V.i t] [] = some ([VV (atP l t), V.b ((atP l t).k != 0)], []) := by
  refine call_of (E := E) (sh := sh) (ct := ctOf [(34, s34), (39, s39)]) (na := 2) (m := 0) (ctOf_cons s34_ok (ctOf_cons s39_ok ctOf_nil)) rfl rfl rfl rfl rfl rfl ?_
  rw [t20]
  simp only [fd_br, fd_chk', fd_leaf, isRows_rows, if_true, toRows_rows, Bool.not_eq_true', rows_length, decide_eq_true_eq]
  unfold atP
  cases hr : right l
  · rfl
  · have := right_len hr
    rw [if_neg (by simp), if_pos (by omega), if_pos rfl, atR_had (right_okN hr)]
theorem f21 (l : List Row) (nl : Option Bool) (tt : Bool) : call E 21 [.c (.sl 5 nl tt (rows l))] [] = some ([V.i (checkR l)], []) := by
  refine call_of (E := E) (sh := sh) (ct := ctOf [(34, s34)]) (na := 1) (m := 0) (ctOf_cons s34_ok ctOf_nil) rfl rfl rfl rfl rfl rfl ?_
  rw [t21]
  simp only [fd_br, fd_chk', fd_leaf, isRows_rows, if_true, toRows_rows, Bool.not_eq_true']
  unfold checkR
  cases hr : right l <;> simp
def clipS (a b : Int) : List Row → List Row → List Row
  | [], out => out
  | x :: r, out => clipS a b r (if max x.a a < min x.b b then out ++ [⟨max x.a a, min x.b b, x.v⟩] else out)
theorem clip_eq (a b : Int) : ∀ (r : List Row) (q : Option Row) (out : List Row), okN q r → (∀ w, out.getLast? = some w → ∃ x, q = some x ∧ (w.b < x.b ∨ (w.b ≤ x.b ∧ w.v = x.v))) → clipS a b r out = clipG a b r out
  | [], q, out, _, _ => rfl
  | x :: r, q, out, h, hq => by
    rw [clipS, clipG]
    have e : addR out ⟨max x.a a, min x.b b, x.v⟩ = if max x.a a < min x.b b then out ++ [⟨max x.a a, min x.b b, x.v⟩] else out := by
      by_cases h1 : max x.a a < min x.b b
      · rw [if_pos h1]
        unfold addR
        rw [if_neg (by show ¬ (min x.b b ≤ max x.a a); omega), if_neg h.2.1]
        cases hl : out.getLast? with
        | none =>
          have : out = [] := by simpa using hl
          simp [this]
        | some w =>
          obtain ⟨y, hy, hv⟩ := hq w hl
          have h3 := h.2.2.1 y hy
          simp only
          rw [if_neg]
          rintro ⟨k1, k2⟩
          have k1 : w.b = max x.a a := k1
          rcases hv with hv | ⟨hb, hv⟩
          · omega
          · have k3 : y.b = x.a := by omega
            exact h3.2 ⟨k3, by rw [← hv, k2]⟩
      · rw [if_neg h1, addR_nop (by show min x.b b ≤ max x.a a; omega)]
    rw [e]
    refine clip_eq a b r (some x) _ (okN_tail h) fun w hw => ?_
    refine ⟨x, rfl, ?_⟩
    split at hw
    · simp at hw; subst hw; exact .inr ⟨by show min x.b b ≤ x.b; omega, rfl⟩
    · obtain ⟨y, hy, hv⟩ := hq w hw
      have h3 := (h.2.2.1 y hy).1
      have h4 := h.1
      left
      rcases hv with hv | ⟨hb, hv⟩ <;> omega
theorem row_snoc (l : List Row) (a b : Int) (x : Row) : rows l ++ [[C.int .i64 a, C.int .i64 b, C.int .i64 x.v.k, C.int .i64 x.v.n, C.str x.v.s]] = rows (l ++ [⟨a, b, x.v⟩]) := by simp [rows, er]
theorem mk_k (r : Row) (d : C) : (Sk.int .i64).mk ((er r).tail.tail.headD d) = .int .i64 r.v.k := rfl
theorem mk_n (r : Row) (d : C) : (Sk.int .i64).mk ((er r).tail.tail.tail.headD d) = .int .i64 r.v.n := rfl
theorem mk_s (r : Row) (d : C) : Sk.str.mk ((er r).tail.tail.tail.tail.headD d) = .str r.v.s := rfl
theorem f22 (l : List Row) (nl : Option Bool) (tt : Bool) (a b : Int) : call E 22 [.c (.sl 5 nl tt (rows l)), V.i a, V.i b] [] = some ([.c (.sl 5 none false (rows (clipR l a b)))], []) := by
  have hct : (ctOf [(34, s34)]).ok E := ctOf_cons s34_ok ctOf_nil
  refine call_of (E := E) (sh := sh) (ct := ctOf [(34, s34)]) (na := 3) (m := 0) hct rfl rfl rfl rfl rfl rfl ?_
  rw [t22]
  simp only [fd_br, fd_chk', fd_leaf, isRows_rows, if_true, toRows_rows, Bool.not_eq_true']
  unfold clipR
  cases hr : right l
  · simp; rfl
  have hl := right_len hr
  simp only [Bool.true_eq_false, if_false, if_true]
  rw [← clip_eq a b l none [] (right_okN hr) (fun w hw => by simp at hw)]
  refine fd_post hct (by kernel_rfl) rfl (list_post hct (b := b22_0) l.length (fun k (s : List Row) => s22_0 nl tt (rows l) a b s.length k (rows s)) (fun k s => clipS a b (l.drop k) s = clipS a b l [] ∧ s.length ≤ k) _ ?_ ?_ 0 (Nat.zero_le _) [] ⟨rfl, by simp⟩)
  · rintro k acc hk ⟨hi, hlen⟩
    rw [List.drop_eq_getElem_cons hk, clipS] at hi
    have c1 : acc.length + 1 < 4294967296 := by omega
    have hq : List.take acc.length acc = acc := List.take_length
    rw [t22_0]
    simp only [ld_br, ld_chk', ld_leaf, fd_br, fd_chk', fd_leaf, decide_true, decide_eq_true_eq, if_true, Int.toNat_natCast, Int.natCast_nonneg, Int.ofNat_lt, Int.ofNat_le, Bool.false_eq_true, if_false, bne_iff_ne, beq_iff_eq, ne_eq, not_true_eq_false, not_false_eq_true, Bool.not_eq_true', decide_eq_false_iff_not, reduceCtorEq, rows_length, pcs_length, er_ok, er_ok', ep_ok, ep_ok', dr_er, dp_ep, isRows_rows, isPcs_pcs, toRows_rows, toPcs_pcs, rows_take, rows_drop, pcs_take, pcs_drop, rows_append, pcs_append, ints_length, isInts_ints, toInts_ints, ei_i, ei_ok, mk_headD, ints_take, ints_drop, ints_append, ints_snoc, ints_snoc', List.take_length, Nat.zero_add, Nat.le_refl, er_a, er_b, er_k, er_n, er_s, er_v, ep_a, ep_b, ep_hk, ep_hn, ep_hs, ep_wk, ep_wn, ep_ws, hk, rows_getD hk, wrap_succ (show k < 9223372036854775807 by omega), maxI, minI, c1, mk_k, mk_n, mk_s, row_snoc]
    left
    by_cases h1 : max l[k].a a < min l[k].b b
    · rw [if_pos h1] at hi
      exact ⟨acc ++ [⟨max l[k].a a, min l[k].b b, l[k].v⟩], ⟨hi, by simp; omega⟩, by rw [if_pos h1]; simp⟩
    · rw [if_neg h1] at hi
      exact ⟨acc, ⟨hi, by omega⟩, by rw [if_neg h1]⟩
  · rintro acc ⟨hi, hlen⟩
    rw [t22_0]
    refine ⟨x22_0x0 nl tt (rows l) a b acc.length l.length (rows acc), by simp, ?_, by simp only [ld_br, ld_chk', ld_leaf, fd_br, fd_chk', fd_leaf, decide_true, decide_eq_true_eq, if_true, Int.toNat_natCast, Int.natCast_nonneg, Int.ofNat_lt, Int.ofNat_le, Bool.false_eq_true, if_false, bne_iff_ne, beq_iff_eq, ne_eq, not_true_eq_false, not_false_eq_true, Bool.not_eq_true', decide_eq_false_iff_not, reduceCtorEq, rows_length, pcs_length, er_ok, er_ok', ep_ok, ep_ok', dr_er, dp_ep, isRows_rows, isPcs_pcs, toRows_rows, toPcs_pcs, rows_take, rows_drop, pcs_take, pcs_drop, rows_append, pcs_append, ints_length, isInts_ints, toInts_ints, ei_i, ei_ok, mk_headD, ints_take, ints_drop, ints_append, ints_snoc, ints_snoc', List.take_length, Nat.zero_add, Nat.le_refl, er_a, er_b, er_k, er_n, er_s, er_v, ep_a, ep_b, ep_hk, ep_hn, ep_hs, ep_wk, ep_wn, ep_ws, Nat.lt_irrefl]⟩
    rw [List.drop_length, clipS] at hi
    have e : List.take acc.length (rows acc) = rows acc := by rw [← rows_length acc, List.take_length]
    rw [k22_0x0, fd_leaf, e, ← hi]
theorem ep_set' (r : Piece) (b : Int) : splice (ep r) 1 (ei b) = ep { r with b := b } := rfl
theorem mk_ei (n : Int) (d : C) : ((ei n).headD d).i = n := rfl
theorem f26 (x y : List Row) (nl : Option Bool) (tt : Bool) (nl2 : Option Bool) (t2 : Bool) : call E 26 [.c (.sl 5 nl tt (rows x)), .c (.sl 5 nl2 t2 (rows y))] [] = some ([.c (.sl 8 none false (pcs (diffR x y)))], []) := by
  have hct : (ctOf [(34, s34), (49, s49), (39, s39)]).ok E := ctOf_cons s34_ok (ctOf_cons s49_ok (ctOf_cons s39_ok ctOf_nil))
  refine call_of (E := E) (sh := sh) (ct := ctOf [(34, s34), (49, s49), (39, s39)]) (na := 2) (m := 0) hct rfl rfl rfl rfl rfl rfl ?_
  rw [t26]
  simp only [fd_br, fd_chk', fd_leaf, isRows_rows, if_true, toRows_rows, Bool.not_eq_true']
  unfold diffR
  cases hx : right x
  · simp; rfl
  cases hy : right y
  · simp; rfl
  have lx := right_len hx
  have ly := right_len hy
  have l1 := bndR_len x []
  have l2 := bndR_len y (bndR [] x)
  have hnil : toInts [] = [] := rfl
  have c1 : (bndR [] x).length < 1000000 := by simp at l1; omega
  simp only [Bool.true_eq_false, if_false, and_self, if_true, hnil, ints_length, isInts_ints, toInts_ints, rows_length, c1, show x.length < 1000000 by omega, show y.length < 1000000 by omega, decide_true, List.length_nil, show (0 : Nat) < 1000000 by omega]
  rw [bnds_eq, diffG_congr (atR_had (right_okN hx)) (atR_had (right_okN hy))]
  have hbl : (bndR (bndR [] x) y).length < 1000 := by simp at l1; omega
  generalize bndR (bndR [] x) y = bs at *
  have key := list_post (p := p26) hct (b := b26_0) (bs.length - 1) (fun k (acc : List Piece) => s26_0 nl tt (rows x) nl2 t2 (rows y) none false (ints bs) acc.length (k + 1) (pcs acc)) (fun k acc => diffG (hadF x) (hadF y) (pairsOf (bs.drop k)) acc = diffG (hadF x) (hadF y) (pairsOf bs) [] ∧ acc.length ≤ k)
    (fun z => p26.fd (p26.fkx 0 z) = some (.out [.c (.sl 8 none false (pcs (diffG (hadF x) (hadF y) (pairsOf bs) [])))] [])) ?_ ?_ 0 (Nat.zero_le _) [] ⟨rfl, by simp⟩
  · exact fd_post hct (by kernel_rfl) rfl key
  · rintro k acc hk ⟨hi, hlen⟩
    have hk1 : k + 1 < bs.length := by omega
    have hk0 : k < bs.length := by omega
    rw [pairsOf_drop hk1, diffG] at hi
    have e1 : ((k : Int) + 1) = ((k + 1 : Nat) : Int) := rfl
    have w1 : IntKind.wrap .i64 (((k + 1 : Nat) : Int) - 1) = (k : Int) := by rw [wrap_same (by omega) (by omega)]; omega
    have w2 : IntKind.wrap .i64 (((k + 1 : Nat) : Int) + 1) = (((k + 1 : Nat) : Int) + 1) := by rw [wrap_same (by omega) (by omega)]
    have a1 := addP_len acc ⟨bs[k], bs[k + 1], hadF x bs[k], hadF y bs[k]⟩
    have c5 : x.length < 4294967296 := by omega
    have c6 : y.length < 4294967296 := by omega
    rw [t26_0]
    left
    refine ⟨addP acc ⟨bs[k], bs[k + 1], hadF x bs[k], hadF y bs[k]⟩, ⟨hi, by omega⟩, ?_⟩
    clear hi
    simp only [e1, ld_br, ld_chk', ld_leaf, fd_br, fd_chk', fd_leaf, decide_true, decide_eq_true_eq, if_true, Int.toNat_natCast, Int.natCast_nonneg, Int.ofNat_lt, Int.ofNat_le, Bool.false_eq_true, if_false, bne_iff_ne, beq_iff_eq, ne_eq, not_true_eq_false, not_false_eq_true, Bool.not_eq_true', decide_eq_false_iff_not, reduceCtorEq, rows_length, pcs_length, er_ok, er_ok', ep_ok, ep_ok', dr_er, dp_ep, isRows_rows, isPcs_pcs, toRows_rows, toPcs_pcs, rows_take, rows_drop, pcs_take, pcs_drop, rows_append, pcs_append, ints_length, isInts_ints, toInts_ints, ei_i, ei_ok, mk_headD, ints_take, ints_drop, ints_append, ints_snoc, ints_snoc', List.take_length, Nat.zero_add, Nat.le_refl, er_a, er_b, er_k, er_n, er_s, er_v, ep_a, ep_b, ep_hk, ep_hn, ep_hs, ep_wk, ep_wn, ep_ws, w1, w2, hk1, hk0, ints_get hk1, ints_get hk0, c5, c6]
    generalize hadF x bs[k] = vx at *
    generalize hadF y bs[k] = vy at *
    simp only [val_eqb, decide_eq_true_eq]
    by_cases h1 : vx = vy
    · have : addP acc ⟨bs[k], bs[k + 1], vx, vy⟩ = acc := by simp [addP, h1]
      rw [if_pos h1, this]
    · rw [if_neg h1]
      cases hn : acc.length with
      | zero =>
        obtain rfl : acc = [] := List.eq_nil_of_length_eq_zero hn
        have : addP [] ⟨bs[k], bs[k + 1], vx, vy⟩ = [⟨bs[k], bs[k + 1], vx, vy⟩] := by simp [addP, h1]
        rw [this]
        rfl
      | succ n =>
        have hn' : n < acc.length := by omega
        have hw : IntKind.wrap .i64 (((n + 1 : Nat) : Int) - 1) = (n : Int) := by rw [wrap_same (by omega) (by omega)]; omega
        have hr : (pcs acc).getD n [] = ep acc[n] := pcs_getD hn'
        have e2 : n + 1 + 1 < 4294967296 := by omega
        have hpos : n < n + 1 := by omega
        have hq' : List.take (n + 1) acc = acc := by rw [← hn, List.take_length]
        rw [addP_at h1 hn]
        by_cases h3 : acc[n].b = bs[k]
        · by_cases h4 : acc[n].h = vx
          · by_cases h5 : acc[n].w = vy
            · simp only [ld_br, ld_chk', ld_leaf, fd_br, fd_chk', fd_leaf, decide_true, decide_eq_true_eq, if_true, Int.toNat_natCast, Int.natCast_nonneg, Int.ofNat_lt, Int.ofNat_le, Bool.false_eq_true, if_false, bne_iff_ne, beq_iff_eq, ne_eq, not_true_eq_false, not_false_eq_true, Bool.not_eq_true', decide_eq_false_iff_not, reduceCtorEq, rows_length, pcs_length, er_ok, er_ok', ep_ok, ep_ok', dr_er, dp_ep, isRows_rows, isPcs_pcs, toRows_rows, toPcs_pcs, rows_take, rows_drop, pcs_take, pcs_drop, rows_append, pcs_append, ints_length, isInts_ints, toInts_ints, ei_i, ei_ok, mk_headD, ints_take, ints_drop, ints_append, ints_snoc, ints_snoc', List.take_length, Nat.zero_add, Nat.le_refl, er_a, er_b, er_k, er_n, er_s, er_v, ep_a, ep_b, ep_hk, ep_hn, ep_hs, ep_wk, ep_wn, ep_ws, hw, hn', hpos, hr, ep_t1, ep_t3, ep_t5, ok1, ok3, List.headD_cons, List.tail_cons, ci, cst, Nat.reduceAdd, Nat.reduceLeDiff, val_eqb, h3, h4, h5, and_self, ep_len, ep_set, ep_set', pcs_set, List.length_set, hn]
            · simp only [ld_br, ld_chk', ld_leaf, fd_br, fd_chk', fd_leaf, decide_true, decide_eq_true_eq, if_true, Int.toNat_natCast, Int.natCast_nonneg, Int.ofNat_lt, Int.ofNat_le, Bool.false_eq_true, if_false, bne_iff_ne, beq_iff_eq, ne_eq, not_true_eq_false, not_false_eq_true, Bool.not_eq_true', decide_eq_false_iff_not, reduceCtorEq, rows_length, pcs_length, er_ok, er_ok', ep_ok, ep_ok', dr_er, dp_ep, isRows_rows, isPcs_pcs, toRows_rows, toPcs_pcs, rows_take, rows_drop, pcs_take, pcs_drop, rows_append, pcs_append, ints_length, isInts_ints, toInts_ints, ei_i, ei_ok, mk_headD, ints_take, ints_drop, ints_append, ints_snoc, ints_snoc', List.take_length, Nat.zero_add, Nat.le_refl, er_a, er_b, er_k, er_n, er_s, er_v, ep_a, ep_b, ep_hk, ep_hn, ep_hs, ep_wk, ep_wn, ep_ws, hw, hn', hpos, hr, ep_t1, ep_t3, ep_t5, ok1, ok3, List.headD_cons, List.tail_cons, ci, cst, Nat.reduceAdd, Nat.reduceLeDiff, val_eqb, h3, h4, h5, and_false, ep_len, e2, ei_mk, hq', pcs_snoc, List.length_append, List.length_cons, List.length_nil, hn]
          · simp only [ld_br, ld_chk', ld_leaf, fd_br, fd_chk', fd_leaf, decide_true, decide_eq_true_eq, if_true, Int.toNat_natCast, Int.natCast_nonneg, Int.ofNat_lt, Int.ofNat_le, Bool.false_eq_true, if_false, bne_iff_ne, beq_iff_eq, ne_eq, not_true_eq_false, not_false_eq_true, Bool.not_eq_true', decide_eq_false_iff_not, reduceCtorEq, rows_length, pcs_length, er_ok, er_ok', ep_ok, ep_ok', dr_er, dp_ep, isRows_rows, isPcs_pcs, toRows_rows, toPcs_pcs, rows_take, rows_drop, pcs_take, pcs_drop, rows_append, pcs_append, ints_length, isInts_ints, toInts_ints, ei_i, ei_ok, mk_headD, ints_take, ints_drop, ints_append, ints_snoc, ints_snoc', List.take_length, Nat.zero_add, Nat.le_refl, er_a, er_b, er_k, er_n, er_s, er_v, ep_a, ep_b, ep_hk, ep_hn, ep_hs, ep_wk, ep_wn, ep_ws, hw, hn', hpos, hr, ep_t1, ep_t3, ep_t5, ok1, ok3, List.headD_cons, List.tail_cons, ci, cst, Nat.reduceAdd, Nat.reduceLeDiff, val_eqb, h3, h4, false_and, and_false, ep_len, e2, ei_mk, hq', pcs_snoc, List.length_append, List.length_cons, List.length_nil, hn]
        · simp only [ld_br, ld_chk', ld_leaf, fd_br, fd_chk', fd_leaf, decide_true, decide_eq_true_eq, if_true, Int.toNat_natCast, Int.natCast_nonneg, Int.ofNat_lt, Int.ofNat_le, Bool.false_eq_true, if_false, bne_iff_ne, beq_iff_eq, ne_eq, not_true_eq_false, not_false_eq_true, Bool.not_eq_true', decide_eq_false_iff_not, reduceCtorEq, rows_length, pcs_length, er_ok, er_ok', ep_ok, ep_ok', dr_er, dp_ep, isRows_rows, isPcs_pcs, toRows_rows, toPcs_pcs, rows_take, rows_drop, pcs_take, pcs_drop, rows_append, pcs_append, ints_length, isInts_ints, toInts_ints, ei_i, ei_ok, mk_headD, ints_take, ints_drop, ints_append, ints_snoc, ints_snoc', List.take_length, Nat.zero_add, Nat.le_refl, er_a, er_b, er_k, er_n, er_s, er_v, ep_a, ep_b, ep_hk, ep_hn, ep_hs, ep_wk, ep_wn, ep_ws, hw, hn', hpos, hr, ep_t1, ep_t3, ep_t5, ok1, ok3, List.headD_cons, List.tail_cons, ci, cst, Nat.reduceAdd, Nat.reduceLeDiff, val_eqb, h3, false_and, ep_len, e2, ei_mk, hq', pcs_snoc, List.length_append, List.length_cons, List.length_nil, hn]
  · rintro acc ⟨hi, hlen⟩
    rw [pairsOf_end (by omega), diffG] at hi
    have c0 : ¬ ((((bs.length - 1 : Nat) : Int) + 1) < (bs.length : Int)) := by omega
    rw [t26_0]
    refine ⟨x26_0x0 nl tt (rows x) nl2 t2 (rows y) none false (ints bs) acc.length (((bs.length - 1 : Nat) : Int) + 1) (pcs acc), by simp, ?_, by simp only [ld_br, ld_leaf, decide_eq_true_eq, ints_length, c0, if_false]⟩
    have e : List.take acc.length (pcs acc) = pcs acc := by rw [← pcs_length acc, List.take_length]
    rw [k26_0x0, fd_leaf, e, ← hi]
def allHoldS (l : List Row) (d : List Piece) : Bool := d.all fun p => holdsS l p
theorem f24 (l : List Row) (d : List Piece) (nl : Option Bool) (tt : Bool) (nl2 : Option Bool) (t2 : Bool) (hd : d.length < 10000) : call E 24 [.c (.sl 5 nl tt (rows l)), .c (.sl 8 nl2 t2 (pcs d))] [] = some ([.c (.sl 5 none false (rows (applyR l d))), V.i (applyE l d)], []) := by
  have hct : (ctOf [(34, s34), (47, s47), (48, s48), (38, s38), (37, s37)]).ok E := ctOf_cons s34_ok (ctOf_cons s47_ok (ctOf_cons s48_ok (ctOf_cons s38_ok (ctOf_cons s37_ok ctOf_nil))))
  refine call_of (E := E) (sh := sh) (ct := ctOf [(34, s34), (47, s47), (48, s48), (38, s38), (37, s37)]) (na := 2) (m := 0) hct rfl rfl rfl rfl rfl rfl ?_
  rw [t24]
  simp only [fd_br, fd_chk', fd_leaf, isRows_rows, isPcs_pcs, if_true, toRows_rows, toPcs_pcs, Bool.not_eq_true', pcs_length, show d.length < 4294967296 by omega, decide_true]
  rw [← pieces_eq d none 0 (fun p h => by cases h) (fun _ => rfl)]
  unfold applyR applyE
  cases hr : right l
  · simp; rfl
  have hl := right_len hr
  have hok := right_okN hr
  simp only [Bool.true_eq_false, if_false, true_and]
  cases hp : piecesG 0 d
  · simp; rfl
  have hsp := pieces_span hp
  simp only [Bool.true_eq_false, if_false, if_true]
  -- what comes behind the first loop
  have tail : ∀ x : Ex × Fr × Hp, x = x24_0x1 nl tt (rows l) nl2 t2 (pcs d) d.length → p24.fd (p24.fkx 0 x) = some (.out [.c (.sl 5 none false (rows (fewR (applyG l d)))), V.i (fewE (applyG l d))] []) := by
    rintro x rfl
    rw [k24_0x1]
    have ht : List.take 0 ([] : List (List C)) = [] := rfl
    simp only [fd_chk', if_true, rows_length, Nat.zero_add, show l.length < 4294967296 by omega, decide_true, ht, List.nil_append]
    have key := loops_post (p := p24) hct (b := b24_1) (ι := Option (Nat × List Row)) (fun i => match i with | none => s24_1 nl2 t2 (pcs d) l.length 0 (rows l) | some (k, s) => q24 nl2 t2 (pcs d) (rows s) k)
      (fun i => match i with | none => True | some (k, s) => k ≤ d.length ∧ applyG s (d.drop k) = applyG l d ∧ okN none s ∧ s.length ≤ 64 + 2 * k) (fun i => match i with | none => d.length + 1 | some (k, _) => d.length - k)
      (fun x => p24.fd (p24.fkx 1 x) = some (.out [.c (.sl 5 none false (rows (fewR (applyG l d)))), V.i (fewE (applyG l d))] [])) ?_ none trivial
    · exact fd_post hct (by kernel_rfl) rfl key
    · have etk : List.take l.length (rows l) = rows l := by rw [← rows_length l, List.take_length]
      rintro (_ | ⟨k, s⟩) hpre
      · simp only
        rw [t24_1, etk]
        cases d with
        | nil =>
          right
          refine ⟨x24_1x0 nl2 t2 (pcs []) l.length 0 (rows l), by simp, ?_, rfl⟩
          rw [k24_1x0, etk]
          simp only [fd_chk', fd_leaf, isRows_rows, if_true, toRows_rows, applyG]
        | cons p r =>
          left
          have e0 : (pcs (p :: r)).getD (Int.toNat 0) [] = ep p := rfl
          obtain ⟨g1, g2, g3⟩ := overR_sem hok (hsp p (by simp)) p.w
          have hsame := over_eq hok (hsp p (by simp)) p.w
          have hlt : (0 : Int) < (((p :: r).length : Nat) : Int) := by simp only [List.length_cons]; omega
          have hlt2 : Int.toNat 0 < (p :: r).length := by simp
          refine ⟨some (1, overR l p.a p.b p.w), ⟨by simp, by rfl, g1, by omega⟩, by simp only [List.length_cons]; omega, ?_⟩
          simp only [ld_br, ld_chk', ld_leaf, pcs_length, e0, hlt, hlt2, decide_true, if_true, Int.le_refl, ep_ok', ep_a, ep_b, ep_wk, ep_wn, ep_ws, val_eta, isRows_rows, toRows_rows, rows_length, show l.length < 100000 by omega, hsame]
          rfl
      · obtain ⟨hk, hi, h1, h2⟩ := hpre
        simp only
        rw [t24p]
        rcases Nat.lt_or_ge k d.length with hlt | hge
        · left
          rw [List.drop_eq_getElem_cons hlt, applyG] at hi
          obtain ⟨g1, g2, g3⟩ := overR_sem h1 (hsp d[k] (List.getElem_mem hlt)) d[k].w
          have hsame := over_eq h1 (hsp d[k] (List.getElem_mem hlt)) d[k].w
          have c1 : s.length < 100000 := by omega
          refine ⟨some (k + 1, overR s d[k].a d[k].b d[k].w), ⟨by omega, hi, g1, by omega⟩, by simp only; omega, ?_⟩
          simp only [ld_br, ld_chk', ld_leaf, fd_br, fd_chk', fd_leaf, decide_true, decide_eq_true_eq, if_true, Int.toNat_natCast, Int.natCast_nonneg, Int.ofNat_lt, Int.ofNat_le, Bool.false_eq_true, if_false, bne_iff_ne, beq_iff_eq, ne_eq, not_true_eq_false, not_false_eq_true, Bool.not_eq_true', decide_eq_false_iff_not, reduceCtorEq, rows_length, pcs_length, er_ok, er_ok', ep_ok, ep_ok', dr_er, dp_ep, isRows_rows, isPcs_pcs, toRows_rows, toPcs_pcs, rows_take, rows_drop, pcs_take, pcs_drop, rows_append, pcs_append, ints_length, isInts_ints, toInts_ints, ei_i, ei_ok, mk_headD, ints_take, ints_drop, ints_append, ints_snoc, ints_snoc', List.take_length, Nat.zero_add, Nat.le_refl, er_a, er_b, er_k, er_n, er_s, er_v, ep_a, ep_b, ep_hk, ep_hn, ep_hs, ep_wk, ep_wn, ep_ws, hlt, pcs_getD hlt, wrap_succ (show k < 9223372036854775807 by omega), val_eta, c1, hsame]
        · obtain rfl : k = d.length := by omega
          right
          refine ⟨x24px0 nl2 t2 (pcs d) (rows s) d.length none, by simp, ?_, by simp only [ld_br, ld_chk', ld_leaf, fd_br, fd_chk', fd_leaf, decide_true, decide_eq_true_eq, if_true, Int.toNat_natCast, Int.natCast_nonneg, Int.ofNat_lt, Int.ofNat_le, Bool.false_eq_true, if_false, bne_iff_ne, beq_iff_eq, ne_eq, not_true_eq_false, not_false_eq_true, Bool.not_eq_true', decide_eq_false_iff_not, reduceCtorEq, rows_length, pcs_length, er_ok, er_ok', ep_ok, ep_ok', dr_er, dp_ep, isRows_rows, isPcs_pcs, toRows_rows, toPcs_pcs, rows_take, rows_drop, pcs_take, pcs_drop, rows_append, pcs_append, ints_length, isInts_ints, toInts_ints, ei_i, ei_ok, mk_headD, ints_take, ints_drop, ints_append, ints_snoc, ints_snoc', List.take_length, Nat.zero_add, Nat.le_refl, er_a, er_b, er_k, er_n, er_s, er_v, ep_a, ep_b, ep_hk, ep_hn, ep_hs, ep_wk, ep_wn, ep_ws, Nat.lt_irrefl]⟩
          rw [List.drop_length, applyG] at hi
          have := t24q nl2 t2 (pcs d) (rows s) d.length
          show p24.fd (p24.fkx 1 (Ex.exit 2, _, _)) = _
          rw [this, ← hi]
          simp only [fd_chk', fd_leaf, isRows_rows, if_true, toRows_rows]
  have eqh : allHold l d = allHoldS l d := by
    unfold allHold allHoldS
    simp only [holds_eq hok]
  rw [eqh]
  refine fd_post hct (by kernel_rfl) ?_ (list_post hct (b := b24_0) d.length (fun k (_ : Unit) => s24_0 nl tt (rows l) nl2 t2 (pcs d) k) (fun k _ => allHoldS l (d.drop k) = allHoldS l d) _ ?_ ?_ 0 (Nat.zero_le _) () (by rfl))
  · split <;> rfl
  · intro k _ hk hi
    rw [List.drop_eq_getElem_cons hk] at hi
    simp only [allHoldS, List.all_cons] at hi
    rw [t24_0]
    have eta : (⟨d[k].a, d[k].b, d[k].h, d[k].w⟩ : Piece) = d[k] := rfl
    simp only [ld_br, ld_chk', ld_leaf, fd_br, fd_chk', fd_leaf, decide_true, decide_eq_true_eq, if_true, Int.toNat_natCast, Int.natCast_nonneg, Int.ofNat_lt, Int.ofNat_le, Bool.false_eq_true, if_false, bne_iff_ne, beq_iff_eq, ne_eq, not_true_eq_false, not_false_eq_true, Bool.not_eq_true', decide_eq_false_iff_not, reduceCtorEq, rows_length, pcs_length, er_ok, er_ok', ep_ok, ep_ok', dr_er, dp_ep, isRows_rows, isPcs_pcs, toRows_rows, toPcs_pcs, rows_take, rows_drop, pcs_take, pcs_drop, rows_append, pcs_append, ints_length, isInts_ints, toInts_ints, ei_i, ei_ok, mk_headD, ints_take, ints_drop, ints_append, ints_snoc, ints_snoc', List.take_length, Nat.zero_add, Nat.le_refl, er_a, er_b, er_k, er_n, er_s, er_v, ep_a, ep_b, ep_hk, ep_hn, ep_hs, ep_wk, ep_wn, ep_ws, hk, pcs_getD hk, wrap_succ (show k < 9223372036854775807 by omega), val_eta, show l.length < 100000 by omega, eta]
    cases hh : holdsS l d[k] with
    | true => left; rw [hh, Bool.true_and] at hi; exact ⟨(), hi, by simp⟩
    | false =>
      right
      rw [hh, Bool.false_and] at hi
      refine ⟨x24_0x0, by simp, ?_, by simp⟩
      rw [k24_0x0, fd_leaf, show allHoldS l d = false from hi.symm]
      rfl
  · intro _ hi
    rw [List.drop_length] at hi
    rw [t24_0]
    refine ⟨x24_0x1 nl tt (rows l) nl2 t2 (pcs d) d.length, by simp, ?_, by simp only [ld_br, ld_chk', ld_leaf, fd_br, fd_chk', fd_leaf, decide_true, decide_eq_true_eq, if_true, Int.toNat_natCast, Int.natCast_nonneg, Int.ofNat_lt, Int.ofNat_le, Bool.false_eq_true, if_false, bne_iff_ne, beq_iff_eq, ne_eq, not_true_eq_false, not_false_eq_true, Bool.not_eq_true', decide_eq_false_iff_not, reduceCtorEq, rows_length, pcs_length, er_ok, er_ok', ep_ok, ep_ok', dr_er, dp_ep, isRows_rows, isPcs_pcs, toRows_rows, toPcs_pcs, rows_take, rows_drop, pcs_take, pcs_drop, rows_append, pcs_append, ints_length, isInts_ints, toInts_ints, ei_i, ei_ok, mk_headD, ints_take, ints_drop, ints_append, ints_snoc, ints_snoc', List.take_length, Nat.zero_add, Nat.le_refl, er_a, er_b, er_k, er_n, er_s, er_v, ep_a, ep_b, ep_hk, ep_hn, ep_hs, ep_wk, ep_wn, ep_ws, Nat.lt_irrefl]⟩
    rw [show allHoldS l d = true from hi.symm]
    exact tail _ rfl
end Go.Proofs.YtedniogmjhhhmaaDoor
