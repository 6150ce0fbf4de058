/-
  Chapter 02 (span): pieces, holds, Diff.
-/
import Derived.Test.YtedniogmjhhhmaaDoorST7
set_option linter.all false
set_option linter.unusedSimpArgs false
set_option linter.unusedVariables false
namespace Go.Proofs.YtedniogmjhhhmaaDoor
open Go Go.Ev

theorem val_eqb0 (v : Val) : (v.k == 0 && (v.n == 0 && (v.s == [] && true))) = decide (v = Val.none) := by
  have := val_eqb v Val.none
  exact this
theorem f59 (v : Val) : call E 59 [VV v] [] = some ([V.b (mayV v)], []) := by
  have hv := val_eqb0 v
  obtain ⟨k, n, s⟩ := v
  refine call_of (E := E) (sh := sh) (ct := ctOf [(28, s28)]) (na := 1) (m := 0) (ctOf_cons s28_ok ctOf_nil) rfl rfl rfl rfl rfl rfl ?_
  rw [t59]
  simp only [fd_br, fd_leaf, mayV]
  simp only at hv
  rw [hv]
  by_cases h : (⟨k, n, s⟩ : Val) = Val.none
  · simp [h]
  · simp [h]; rfl
theorem s59_ok : CSpecOk E 59 s59 := by
  intro a h cs vals h' he hc
  unfold s59 at he
  split at he <;> simp only [Option.some.injEq, Prod.mk.injEq, reduceCtorEq] at he
  rename_i k n s
  obtain ⟨rfl, rfl, rfl⟩ := he
  exact f59 ⟨k, n, s⟩
theorem f61 (v : Val) : call E 61 [VV v] [] = some ([V.b (mayV v)], []) := by
  have hv := val_eqb0 v
  obtain ⟨k, n, s⟩ := v
  refine call_of (E := E) (sh := sh) (ct := ctOf [(35, s35)]) (na := 1) (m := 0) (ctOf_cons s35_ok ctOf_nil) rfl rfl rfl rfl rfl rfl ?_
  rw [t61]
  simp only [fd_br, fd_leaf, mayV, valR_eq]
  simp only at hv
  rw [hv]
  by_cases h : (⟨k, n, s⟩ : Val) = Val.none
  · simp [h]
  · simp [h]
theorem s61_ok : CSpecOk E 61 s61 := by
  intro a h cs vals h' he hc
  unfold s61 s59 at he
  split at he <;> simp only [Option.some.injEq, Prod.mk.injEq, reduceCtorEq] at he
  rename_i k n s
  obtain ⟨rfl, rfl, rfl⟩ := he
  exact f61 ⟨k, n, s⟩

/-! ## pieces -/
def piecesG (e : Int) : List Piece → Bool
  | [] => true
  | p :: r => isSpan p.a p.b && !decide (p.a < e) && !decide (p.h = p.w) && mayV p.h && mayV p.w && piecesG p.b r
theorem f40 (l : List Piece) (nl : Option Bool) (tt : Bool) (hl : l.length < 4294967296) : call E 40 [.c (.sl 8 nl tt (pcs l))] [] = some ([V.b (piecesG 0 l)], []) := by
  have hct : (ctOf [(27, s27), (59, s59)]).ok E := ctOf_cons s27_ok (ctOf_cons s59_ok ctOf_nil)
  refine call_of (E := E) (sh := sh) (ct := ctOf [(27, s27), (59, s59)]) (na := 1) (m := 0) hct rfl rfl rfl rfl rfl rfl ?_
  rw [t40, pcs_length]
  refine fd_post hct (by kernel_rfl) rfl (list_post hct (b := b40_0) l.length (fun k (e : Int) => s40_0 nl tt (pcs l) e l.length k) (fun k e => piecesG e (l.drop k) = piecesG 0 l) _ ?_ ?_ 0 (Nat.zero_le _) 0 (by rfl))
  · intro k e hk hi
    rw [List.drop_eq_getElem_cons hk] at hi
    simp only [piecesG] at hi
    rw [t40_0]
    have hv := val_eqb l[k].h l[k].w
    simp only [ld_br, ld_chk', ld_leaf, fd_br, fd_chk', fd_leaf, decide_true, decide_eq_true_eq, if_true, Int.toNat_natCast, Int.natCast_nonneg, Int.ofNat_lt, Int.ofNat_le, Bool.false_eq_true, if_false, bne_iff_ne, beq_iff_eq, ne_eq, not_true_eq_false, not_false_eq_true, Bool.not_eq_true', decide_eq_false_iff_not, reduceCtorEq, rows_length, pcs_length, er_ok, er_ok', ep_ok, ep_ok', dr_er, dp_ep, isRows_rows, isPcs_pcs, toRows_rows, toPcs_pcs, rows_take, rows_drop, pcs_take, pcs_drop, rows_append, pcs_append, ints_length, isInts_ints, toInts_ints, ei_i, ei_ok, mk_headD, ints_take, ints_drop, ints_append, ints_snoc, ints_snoc', List.take_length, Nat.zero_add, Nat.le_refl, er_a, er_b, er_k, er_n, er_s, er_v, ep_a, ep_b, ep_hk, ep_hn, ep_hs, ep_wk, ep_wn, ep_ws, hk, pcs_getD hk, wrap_succ (show k < 9223372036854775807 by omega), hv, val_eta]
    have ex0 : ∀ {b : Bool}, b = false → p40.fd (p40.fkx 0 (x40_0x0 l[k].a l[k].b l[k].h.k l[k].h.n l[k].h.s l[k].w.k l[k].w.n l[k].w.s)) = some (.out [V.b b] []) := fun h => by rw [k40_0x0, fd_leaf, h]
    by_cases h1 : isSpan l[k].a l[k].b = true
    · by_cases h2 : l[k].a < e
      · right; exact ⟨_, by simp, ex0 (by rw [← hi]; simp [h2]), by simp [h1, h2]⟩
      · by_cases h3 : l[k].h = l[k].w
        · right; exact ⟨_, by simp, ex0 (by rw [← hi]; simp [h3]), by simp [h1, h2, h3]⟩
        · cases h4 : mayV l[k].h with
          | false => right; exact ⟨_, by simp, ex0 (by rw [← hi]; simp [h4]), by simp [h1, h2, h3]⟩
          | true =>
            cases h5 : mayV l[k].w with
            | false => right; exact ⟨_, by simp, ex0 (by rw [← hi]; simp [h5]), by simp [h1, h2, h3]⟩
            | true => left; exact ⟨l[k].b, by rw [← hi]; simp [h1, h2, h3, h4, h5], by simp [h1, h2, h3]⟩
    · right
      have h1 : isSpan l[k].a l[k].b = false := by simpa using h1
      exact ⟨_, by simp, ex0 (by rw [← hi]; simp [h1]), by simp [h1]⟩
  · intro e hi
    rw [t40_0]
    refine ⟨x40_0x1 nl tt (pcs l) e l.length l.length, by simp, ?_, by simp only [ld_br, ld_chk', ld_leaf, fd_br, fd_chk', fd_leaf, decide_true, decide_eq_true_eq, if_true, Int.toNat_natCast, Int.natCast_nonneg, Int.ofNat_lt, Int.ofNat_le, Bool.false_eq_true, if_false, bne_iff_ne, beq_iff_eq, ne_eq, not_true_eq_false, not_false_eq_true, Bool.not_eq_true', decide_eq_false_iff_not, reduceCtorEq, rows_length, pcs_length, er_ok, er_ok', ep_ok, ep_ok', dr_er, dp_ep, isRows_rows, isPcs_pcs, toRows_rows, toPcs_pcs, rows_take, rows_drop, pcs_take, pcs_drop, rows_append, pcs_append, ints_length, isInts_ints, toInts_ints, ei_i, ei_ok, mk_headD, ints_take, ints_drop, ints_append, ints_snoc, ints_snoc', List.take_length, Nat.zero_add, Nat.le_refl, er_a, er_b, er_k, er_n, er_s, er_v, ep_a, ep_b, ep_hk, ep_hn, ep_hs, ep_wk, ep_wn, ep_ws, Int.lt_irrefl]⟩
    rw [List.drop_length] at hi
    rw [k40_0x1, fd_leaf, ← hi]; rfl
/-- .. as the reference has it. -/
def piecesR : Option Piece → List Piece → Bool
  | _, [] => true
  | q, p :: r => isSpan p.a p.b && !decide (p.h = p.w) && mayV p.h && mayV p.w && (match q with | none => true | some q => !decide (p.a < q.b)) && piecesR (some p) r
theorem f47 (l : List Piece) (nl : Option Bool) (tt : Bool) (hl : l.length < 4294967296) : call E 47 [.c (.sl 8 nl tt (pcs l))] [] = some ([V.b (piecesR none l)], []) := by
  have hct : (ctOf [(36, s36), (61, s61)]).ok E := ctOf_cons s36_ok (ctOf_cons s61_ok ctOf_nil)
  refine call_of (E := E) (sh := sh) (ct := ctOf [(36, s36), (61, s61)]) (na := 1) (m := 0) hct rfl rfl rfl rfl rfl rfl ?_
  rw [t47]
  refine fd_post hct (by kernel_rfl) rfl (list_post hct (b := b47_0) l.length (fun k (_ : Unit) => s47_0 nl tt (pcs l) k) (fun k _ => piecesR (if k = 0 then none else l[k - 1]?) (l.drop k) = piecesR none l) _ ?_ ?_ 0 (Nat.zero_le _) () (by rfl))
  · intro k _ hk hi
    rw [List.drop_eq_getElem_cons hk] at hi
    simp only [piecesR] at hi
    rw [t47_0]
    have hv := val_eqb l[k].h l[k].w
    have hsk : some l[k] = l[k]? := (List.getElem?_eq_getElem hk).symm
    simp only [ld_br, ld_chk', ld_leaf, fd_br, fd_chk', fd_leaf, decide_true, decide_eq_true_eq, if_true, Int.toNat_natCast, Int.natCast_nonneg, Int.ofNat_lt, Int.ofNat_le, Bool.false_eq_true, if_false, bne_iff_ne, beq_iff_eq, ne_eq, not_true_eq_false, not_false_eq_true, Bool.not_eq_true', decide_eq_false_iff_not, reduceCtorEq, rows_length, pcs_length, er_ok, er_ok', ep_ok, ep_ok', dr_er, dp_ep, isRows_rows, isPcs_pcs, toRows_rows, toPcs_pcs, rows_take, rows_drop, pcs_take, pcs_drop, rows_append, pcs_append, ints_length, isInts_ints, toInts_ints, ei_i, ei_ok, mk_headD, ints_take, ints_drop, ints_append, ints_snoc, ints_snoc', List.take_length, Nat.zero_add, Nat.le_refl, er_a, er_b, er_k, er_n, er_s, er_v, ep_a, ep_b, ep_hk, ep_hn, ep_hs, ep_wk, ep_wn, ep_ws, hk, pcs_getD hk, wrap_succ (show k < 9223372036854775807 by omega), hv, val_eta]
    have ex0 : ∀ {b : Bool}, b = false → p47.fd (p47.fkx 0 x47_0x0) = some (.out [V.b b] []) := fun h => by rw [k47_0x0, fd_leaf, h]
    by_cases h1 : isSpan l[k].a l[k].b = true
    · by_cases h3 : l[k].h = l[k].w
      · right; exact ⟨x47_0x0, by simp, ex0 (by rw [← hi]; simp [h3]), by simp [h1, h3]⟩
      · cases h4 : mayV l[k].h with
        | false => right; exact ⟨x47_0x0, by simp, ex0 (by rw [← hi]; simp [h4]), by simp [h1, h3]⟩
        | true =>
          cases h5 : mayV l[k].w with
          | false => right; exact ⟨x47_0x0, by simp, ex0 (by rw [← hi]; simp [h5]), by simp [h1, h3]⟩
          | true =>
            cases k with
            | zero =>
              left
              refine ⟨(), ?_, by simp [h1, h3]⟩
              rw [← hi]; simp [h1, h3, h4, h5, hsk]
            | succ k =>
              have hk' : k < l.length := by omega
              have e1 : l[k + 1 - 1]? = some l[k] := by simp [hk']
              rw [if_neg (by omega), e1] at hi
              simp only at hi
              have hw2 : IntKind.wrap .i64 (((k + 1 : Nat) : Int) - 1) = (k : Int) := by rw [wrap_same (by omega) (by omega)]; omega
              have hpos : (0 : Int) < ((k + 1 : Nat) : Int) := by omega
              simp only [hpos, if_true, hw2, Int.natCast_nonneg, Int.toNat_natCast, hk', pcs_getD hk', ep_ok', ep_a, ep_b, h1, h3, Bool.true_eq_false, if_false, decide_eq_true_eq]
              by_cases h6 : l[k + 1].a < l[k].b
              · right; exact ⟨x47_0x0, by simp, ex0 (by rw [← hi]; simp [h6]), by rw [if_pos h6]⟩
              · left
                refine ⟨(), ?_, by rw [if_neg h6]⟩
                rw [← hi, h1, h4, h5, decide_eq_false h3, decide_eq_false h6]
                simp [hsk]
    · right
      have h1 : isSpan l[k].a l[k].b = false := by simpa using h1
      exact ⟨x47_0x0, by simp, ex0 (by rw [← hi]; simp [h1]), by simp [h1]⟩
  · intro _ hi
    rw [t47_0]
    refine ⟨x47_0x1 nl tt (pcs l) l.length, by simp, ?_, by simp only [ld_br, ld_chk', ld_leaf, fd_br, fd_chk', fd_leaf, decide_true, decide_eq_true_eq, if_true, Int.toNat_natCast, Int.natCast_nonneg, Int.ofNat_lt, Int.ofNat_le, Bool.false_eq_true, if_false, bne_iff_ne, beq_iff_eq, ne_eq, not_true_eq_false, not_false_eq_true, Bool.not_eq_true', decide_eq_false_iff_not, reduceCtorEq, rows_length, pcs_length, er_ok, er_ok', ep_ok, ep_ok', dr_er, dp_ep, isRows_rows, isPcs_pcs, toRows_rows, toPcs_pcs, rows_take, rows_drop, pcs_take, pcs_drop, rows_append, pcs_append, ints_length, isInts_ints, toInts_ints, ei_i, ei_ok, mk_headD, ints_take, ints_drop, ints_append, ints_snoc, ints_snoc', List.take_length, Nat.zero_add, Nat.le_refl, er_a, er_b, er_k, er_n, er_s, er_v, ep_a, ep_b, ep_hk, ep_hn, ep_hs, ep_wk, ep_wn, ep_ws, Nat.lt_irrefl]⟩
    rw [List.drop_length] at hi
    simp only [piecesR] at hi
    rw [k47_0x1, fd_leaf, ← hi]

/-! ## holds -/
@[reducible] def PP (p : Piece) : V := .agg [V.i p.a, V.i p.b, V.i p.h.k, V.i p.h.n, .c (.str p.h.s), V.i p.w.k, V.i p.w.n, .c (.str p.w.s)]
def holdsC (l : List Row) (p : Piece) : Bool := (pairsOf (bnds l [⟨p.a, p.b, p.h⟩])).all fun q => !(decide (p.a ≤ q.1) && decide (q.2 ≤ p.b) && !decide (atR l q.1 = p.h))
theorem call53 {x y : List Row} {nl : Option Bool} {tt : Bool} {nl2 : Option Bool} {t2 : Bool} (hx : x.length < 1000000) (hy : y.length < 1000000) : ∀ u t, Want ((pairsOf (bnds x y)).map encP) u t →
    ∃ vals h1, call E 53 [.yl 2, .ptr 0 0 0 0, .ptr 1 0 0 0] ([.box [.c (.sl 5 nl tt (rows x))], .box [.c (.sl 5 nl2 t2 (rows y))]] ++ [.yo u t]) = some (vals, h1) ∧ spent h1 2 = true := fun u t hw =>
  ⟨_, _, f53 x y nl tt nl2 t2 hx hy u t hw, rfl⟩
theorem sq_ok (x y : List Row) (nl : Option Bool) (tt : Bool) (nl2 : Option Bool) (t2 : Bool) : E.seq 53 [.yl 2, .ptr 0 0 0 0, .ptr 1 0 0 0] [.box [.c (.sl 5 nl tt (rows x))], .box [.c (.sl 5 nl2 t2 (rows y))]] = some ((pairsOf (bnds x y)).map encP) := by
  have : sq 53 [.yl 2, .ptr 0 0 0 0, .ptr 1 0 0 0] [.box [.c (.sl 5 nl tt (rows x))], .box [.c (.sl 5 nl2 t2 (rows y))]] = some ((pairsOf (bnds x y)).map encP) := by
    simp only [sq, toRows_rows]
  exact this
theorem f43 (l : List Row) (nl : Option Bool) (tt : Bool) (p : Piece) (hl : l.length < 1000000) : call E 43 [.c (.sl 5 nl tt (rows l)), PP p] [] = some ([V.b (holdsC l p)], []) := by
  have hct : (ctOf [(31, s31), (30, s30)]).ok E := ctOf_cons s31_ok (ctOf_cons s30_ok ctOf_nil)
  obtain ⟨a, b, ⟨k, m, s⟩, ⟨k2, m2, s2⟩⟩ := p
  refine call_of (E := E) (sh := sh) (ct := ctOf [(31, s31), (30, s30)]) (na := 2) (m := 0) hct rfl rfl rfl rfl rfl rfl ?_
  rw [t43]
  have hrow : [[C.int .i64 a, C.int .i64 b, C.int .i64 k, C.int .i64 m, C.str s]] = rows [⟨a, b, ⟨k, m, s⟩⟩] := rfl
  rw [hrow]
  refine fd_rpost hct (by kernel_rfl) rfl (ranges_post (p := p43) hct (c := b43_0) (gi := 53) (caps := [.ptr 3 0 0 0, .ptr 4 0 0 0]) (args := [.yl 2, .ptr 0 0 0 0, .ptr 1 0 0 0]) (h0 := [.box [.c (.sl 5 nl tt (rows l))], .box [.c (.sl 5 (some false) true (rows [⟨a, b, ⟨k, m, s⟩⟩]))]]) (ids := [3, 4]) (by kernel_rfl) (pairsOf (bnds l [⟨a, b, ⟨k, m, s⟩⟩])) encP rfl (by kernel_rfl) ?_ (call53 hl (by simp)) (fun (_ : Unit) => g43_0 nl tt (rows l) a b k m s k2 m2 s2 false) (fun r _ => (r.all fun q => !(decide (a ≤ q.1) && decide (q.2 ≤ b) && !decide (atR l q.1 = ⟨k, m, s⟩))) = holdsC l ⟨a, b, ⟨k, m, s⟩, ⟨k2, m2, s2⟩⟩) _ ?_ ?_ () rfl rfl)
  · exact sq_ok _ _ _ _ _ _
  · rintro ⟨q1, q2⟩ r _ hi
    rw [List.all_cons] at hi
    have hv := val_eqb (atR l q1) ⟨k, m, s⟩
    show _ ∨ _
    have ht := t43_0 nl tt (rows l) a b k m s k2 m2 s2 false q1 q2
    have e0 : (encP (q1, q2)) = [V.i q1, V.i q2] := rfl
    simp only at hv hi
    rw [e0, ht]
    simp only [rd_br, rd_chk', rd_leaf, isRows_rows, toRows_rows, rows_length, show l.length ≤ 4294967296 by omega, decide_true, if_true, hv, decide_eq_true_eq, Bool.not_eq_true', decide_eq_false_iff_not]
    by_cases h1 : a ≤ q1
    · by_cases h2 : q2 ≤ b
      · by_cases h3 : atR l q1 = ⟨k, m, s⟩
        · left; exact ⟨(), by rw [← hi]; simp [h3], by simp [h1, h2, h3]⟩
        · right
          refine ⟨x43_0x0 nl tt (rows l) a b k m s k2 m2 s2, by simp, ?_, by simp [h1, h2, h3]⟩
          rw [k43_0x0, fd_leaf, ← hi]; simp [h1, h2, h3]
      · left; exact ⟨(), by rw [← hi]; simp [h2], by simp [h1, h2]⟩
    · left; exact ⟨(), by rw [← hi]; simp [h1], by simp [h1]⟩
  · intro _ hi
    have := k43_0n nl tt (rows l) a b k m s k2 m2 s2 false
    rw [← hi]
    exact congrArg p43.fd this
def holdsS (l : List Row) (p : Piece) : Bool := (pairsOf (bndR (insG (insG [] p.a false) p.b false) l)).all fun q => !(decide (p.a ≤ q.1) && decide (q.2 ≤ p.b) && !decide (hadF l q.1 = p.h))
theorem f48 (l : List Row) (nl : Option Bool) (tt : Bool) (p : Piece) (hl : l.length < 100000) : call E 48 [.c (.sl 5 nl tt (rows l)), PP p] [] = some ([V.b (holdsS l p)], []) := by
  have hct : (ctOf [(57, s57), (49, s49), (39, s39)]).ok E := ctOf_cons s57_ok (ctOf_cons s49_ok (ctOf_cons s39_ok ctOf_nil))
  obtain ⟨a, b, ⟨k, m, s⟩, ⟨k2, m2, s2⟩⟩ := p
  refine call_of (E := E) (sh := sh) (ct := ctOf [(57, s57), (49, s49), (39, s39)]) (na := 2) (m := 0) hct rfl rfl rfl rfl rfl rfl ?_
  rw [t48]
  have h1 := insG_len [] a false
  have h2 := insG_len (insG [] a false) b false
  have h3 := bndR_len l (insG (insG [] a false) b false)
  have c1 : (insG (insG [] a false) b false).length < 1000000 := by simp at h1; omega
  have hnil : toInts [] = [] := rfl
  simp only [ld_br, ld_chk', ld_leaf, fd_br, fd_chk', fd_leaf, decide_true, decide_eq_true_eq, if_true, Int.toNat_natCast, Int.natCast_nonneg, Int.ofNat_lt, Int.ofNat_le, Bool.false_eq_true, if_false, bne_iff_ne, beq_iff_eq, ne_eq, not_true_eq_false, not_false_eq_true, Bool.not_eq_true', decide_eq_false_iff_not, reduceCtorEq, rows_length, pcs_length, er_ok, er_ok', ep_ok, ep_ok', dr_er, dp_ep, isRows_rows, isPcs_pcs, toRows_rows, toPcs_pcs, rows_take, rows_drop, pcs_take, pcs_drop, rows_append, pcs_append, ints_length, isInts_ints, toInts_ints, ei_i, ei_ok, mk_headD, ints_take, ints_drop, ints_append, ints_snoc, ints_snoc', List.take_length, Nat.zero_add, Nat.le_refl, er_a, er_b, er_k, er_n, er_s, er_v, ep_a, ep_b, ep_hk, ep_hn, ep_hs, ep_wk, ep_wn, ep_ws, hnil, c1, show l.length < 1000000 by omega]
  unfold holdsS
  simp only
  generalize hbs : bndR (insG (insG [] a false) b false) l = bs at *
  have c2 : bs.length < 1000000 := by simp at h1; omega
  have key := list_post (p := p48) hct (b := b48_0) (bs.length - 1) (fun j (_ : Unit) => s48_0 nl tt (rows l) a b k m s k2 m2 s2 none false (ints bs) (j + 1)) (fun j _ => ((pairsOf (bs.drop j)).all fun q => !(decide (a ≤ q.1) && decide (q.2 ≤ b) && !decide (hadF l q.1 = ⟨k, m, s⟩))) = ((pairsOf bs).all fun q => !(decide (a ≤ q.1) && decide (q.2 ≤ b) && !decide (hadF l q.1 = ⟨k, m, s⟩))))
    (fun x => p48.fd (p48.fkx 0 x) = some (.out [V.b ((pairsOf bs).all fun q => !(decide (a ≤ q.1) && decide (q.2 ≤ b) && !decide (hadF l q.1 = ⟨k, m, s⟩)))] [])) ?_ ?_ 0 (Nat.zero_le _) () rfl
  · exact fd_post hct (by kernel_rfl) rfl key
  · intro j _ hj hi
    have hj1 : j + 1 < bs.length := by omega
    have hj0 : j < bs.length := by omega
    rw [pairsOf_drop hj1, List.all_cons] at hi
    have e1 : ((j : Int) + 1) = ((j + 1 : Nat) : Int) := rfl
    have w1 : IntKind.wrap .i64 (((j + 1 : Nat) : Int) - 1) = (j : Int) := by rw [wrap_same (by omega) (by omega)]; omega
    have w2 : IntKind.wrap .i64 (((j + 1 : Nat) : Int) + 1) = (((j + 1 : Nat) : Int) + 1) := by rw [wrap_same (by omega) (by omega)]
    have hv := val_eqb (hadF l bs[j]) ⟨k, m, s⟩
    simp only at hv hi
    rw [t48_0]
    have c4 : l.length < 4294967296 := by omega
    simp only [e1, ld_br, ld_chk', ld_leaf, fd_br, fd_chk', fd_leaf, decide_true, decide_eq_true_eq, if_true, Int.toNat_natCast, Int.natCast_nonneg, Int.ofNat_lt, Int.ofNat_le, Bool.false_eq_true, if_false, bne_iff_ne, beq_iff_eq, ne_eq, not_true_eq_false, not_false_eq_true, Bool.not_eq_true', decide_eq_false_iff_not, reduceCtorEq, rows_length, pcs_length, er_ok, er_ok', ep_ok, ep_ok', dr_er, dp_ep, isRows_rows, isPcs_pcs, toRows_rows, toPcs_pcs, rows_take, rows_drop, pcs_take, pcs_drop, rows_append, pcs_append, ints_length, isInts_ints, toInts_ints, ei_i, ei_ok, mk_headD, ints_take, ints_drop, ints_append, ints_snoc, ints_snoc', List.take_length, Nat.zero_add, Nat.le_refl, er_a, er_b, er_k, er_n, er_s, er_v, ep_a, ep_b, ep_hk, ep_hn, ep_hs, ep_wk, ep_wn, ep_ws, w1, w2, hj1, hj0, ints_get hj1, ints_get hj0, c4, hv]
    by_cases g1 : a ≤ bs[j]
    · by_cases g2 : bs[j + 1] ≤ b
      · by_cases g3 : hadF l bs[j] = ⟨k, m, s⟩
        · left; exact ⟨(), by rw [← hi]; simp [g3], by simp [g1, g2, g3]⟩
        · right
          refine ⟨x48_0x0 a b k m s k2 m2 s2, by simp, ?_, by simp [g1, g2, g3]⟩
          rw [k48_0x0, fd_leaf, ← hi]; simp [g1, g2, g3]
      · left; exact ⟨(), by rw [← hi]; simp [g2], by simp [g1, g2]⟩
    · left; exact ⟨(), by rw [← hi]; simp [g1], by simp [g1]⟩
  · intro _ hi
    rw [pairsOf_end (by omega)] at hi
    have c0 : ¬ ((((bs.length - 1 : Nat) : Int) + 1) < (bs.length : Int)) := by omega
    rw [t48_0]
    refine ⟨x48_0x1 nl tt (rows l) a b k m s k2 m2 s2 none false (ints bs) (((bs.length - 1 : Nat) : Int) + 1), by simp, ?_, by simp only [ld_br, ld_leaf, decide_eq_true_eq, ints_length, c0, if_false]⟩
    rw [k48_0x1, fd_leaf, ← hi]; rfl

/-! ## Diff -/
def addP (acc : List Piece) (p : Piece) : List Piece := if p.h = p.w then acc else match acc.getLast? with
  | none => [p]
  | some w => if w.b = p.a ∧ w.h = p.h ∧ w.w = p.w then acc.set (acc.length - 1) { w with b := p.b } else acc ++ [p]
def diffG (f g : Int → Val) : List (Int × Int) → List Piece → List Piece
  | [], acc => acc
  | q :: r, acc => diffG f g r (addP acc ⟨q.1, q.2, f q.1, g q.1⟩)
theorem addP_len (l : List Piece) (x : Piece) : (addP l x).length ≤ l.length + 1 := by
  unfold addP
  repeat' split
  all_goals simp
  all_goals rename_i h; simp at h; simp [h]
theorem addP_at {l : List Piece} {x : Piece} (h2 : ¬ x.h = x.w) {k : Nat} (hk : l.length = k + 1) : addP l x = if (l[k]'(by omega)).b = x.a ∧ (l[k]'(by omega)).h = x.h ∧ (l[k]'(by omega)).w = x.w then l.set k { l[k]'(by omega) with b := x.b } else l ++ [x] := by
  unfold addP
  rw [if_neg h2]
  have : l.getLast? = some (l[k]'(by omega)) := by
    rw [List.getLast?_eq_getElem?, List.getElem?_eq_getElem (by omega)]
    simp only [hk, Nat.add_sub_cancel]
  rw [this]
  simp only [show l.length - 1 = k by omega]
theorem ep_len (r : Piece) : (ep r).length = 8 := rfl
theorem ep_t1 (r : Piece) : List.take 1 (List.drop 1 (ep r)) = [C.int .i64 r.b] := rfl
theorem ep_t3 (r : Piece) : List.take 3 (List.drop 2 (ep r)) = [C.int .i64 r.h.k, C.int .i64 r.h.n, C.str r.h.s] := rfl
theorem ep_t5 (r : Piece) : List.take 3 (List.drop 5 (ep r)) = [C.int .i64 r.w.k, C.int .i64 r.w.n, C.str r.w.s] := rfl
theorem ep_set (r : Piece) (b : Int) : splice (ep r) 1 [C.int .i64 b] = ep { r with b := b } := rfl
theorem pcs_set (l : List Piece) (i : Nat) (r : Piece) : (pcs l).set i (ep r) = pcs (l.set i r) := by simp [pcs]
theorem pcs_snoc (l : List Piece) (a b k m : Int) (s : List UInt8) (k2 m2 : Int) (s2 : List UInt8) : pcs l ++ [[C.int .i64 a, C.int .i64 b, C.int .i64 k, C.int .i64 m, C.str s, C.int .i64 k2, C.int .i64 m2, C.str s2]] = pcs (l ++ [⟨a, b, ⟨k, m, s⟩, ⟨k2, m2, s2⟩⟩]) := by simp [pcs, ep]
theorem pcs_nil : pcs [] = [] := rfl
theorem val_eqb' (a b : Val) : (a.k == b.k && (a.n == b.n && a.s == b.s)) = decide (a = b) := by
  have := val_eqb a b
  simpa using this
theorem f13 (x y : List Row) (nl : Option Bool) (tt : Bool) (nl2 : Option Bool) (t2 : Bool) : call E 13 [.c (.sl 5 nl tt (rows x)), .c (.sl 5 nl2 t2 (rows y))] [] =
    some ([.c (.sl 8 none false (pcs (if right x = true ∧ right y = true then diffG (atR x) (atR y) (pairsOf (bnds x y)) [] else [])))], []) := by
  have hct : (ctOf [(10, s10), (31, s31), (30, s30)]).ok E := ctOf_cons s10_ok (ctOf_cons s31_ok (ctOf_cons s30_ok ctOf_nil))
  refine call_of (E := E) (sh := sh) (ct := ctOf [(10, s10), (31, s31), (30, s30)]) (na := 2) (m := 0) hct rfl rfl rfl rfl rfl rfl ?_
  rw [t13]
  simp only [fd_br, fd_chk', fd_leaf, isRows_rows, if_true, toRows_rows, checkR_ne, Bool.not_eq_true']
  cases hx : right x
  · simp; rfl
  cases hy : right y
  · simp; rfl
  have lx := right_len hx
  have ly := right_len hy
  have hbl : (pairsOf (bnds x y)).length ≤ 1000 := by
    rw [pairsOf_len]
    have := compact_le (sortI (timesOf x ++ timesOf y))
    simp only [sortI_len, List.length_append, timesOf_len] at this
    unfold bnds; omega
  simp only [Bool.true_eq_false, if_false, and_self, if_true]
  refine fd_rpost hct (by kernel_rfl) rfl (ranges_post (p := p13) hct (c := b13_0) (gi := 53) (caps := [.ptr 4 0 0 0, .ptr 5 0 0 0]) (args := [.yl 2, .ptr 0 0 0 0, .ptr 1 0 0 0]) (h0 := [.box [.c (.sl 5 nl tt (rows x))], .box [.c (.sl 5 nl2 t2 (rows y))]]) (ids := [4, 5]) (by kernel_rfl) (pairsOf (bnds x y)) encP rfl (by kernel_rfl) ?_ (call53 (by omega) (by omega)) (fun (acc : List Piece) => g13_0 nl tt (rows x) nl2 t2 (rows y) (some true) true [] (pcs acc) acc.length)
    (fun r acc => diffG (atR x) (atR y) r acc = diffG (atR x) (atR y) (pairsOf (bnds x y)) [] ∧ acc.length + r.length ≤ 1000) _ ?_ ?_ [] rfl ⟨rfl, by simpa using hbl⟩)
  · exact sq_ok _ _ _ _ _ _
  · rintro ⟨q1, q2⟩ r acc ⟨hi, hlen⟩
    rw [diffG] at hi
    simp only [List.length_cons] at hlen
    have ht := t13_0 nl tt (rows x) nl2 t2 (rows y) (some true) true [] (pcs acc) acc.length q1 q2
    have e0 : (encP (q1, q2)) = [V.i q1, V.i q2] := rfl
    rw [e0, ht]
    clear ht
    have a1 := addP_len acc ⟨q1, q2, atR x q1, atR y q1⟩
    left
    refine ⟨addP acc ⟨q1, q2, atR x q1, atR y q1⟩, ⟨hi, by omega⟩, ?_⟩
    clear hi
    simp only [isRows_rows, toRows_rows, rows_length]
    generalize atR x q1 = vx at *
    generalize atR y q1 = vy at *
    have hv := val_eqb vx vy
    simp only [rd_br, rd_chk', rd_leaf, show x.length ≤ 4294967296 by omega, show y.length ≤ 4294967296 by omega, decide_true, if_true, hv, decide_eq_true_eq]
    by_cases h1 : vx = vy
    · have : addP acc ⟨q1, q2, vx, vy⟩ = acc := by simp [addP, h1]
      rw [if_pos h1, this]
    · rw [if_neg h1]
      cases hn : acc.length with
      | zero =>
        obtain rfl : acc = [] := List.eq_nil_of_length_eq_zero hn
        have : addP [] ⟨q1, q2, vx, vy⟩ = [⟨q1, q2, vx, vy⟩] := by simp [addP, h1]
        rw [this]
        rfl
      | succ n =>
        have hn' : n < acc.length := by omega
        have hw : IntKind.wrap .i64 (((n + 1 : Nat) : Int) - 1) = (n : Int) := by rw [wrap_same (by omega) (by omega)]; omega
        have hr : (pcs acc).getD n [] = ep acc[n] := pcs_getD hn'
        have e2 : n + 1 + 1 < 4294967296 := by omega
        have hq : List.take (n + 1) (pcs acc) = pcs acc := by rw [← hn, ← pcs_length acc, List.take_length]
        have hpos : n < n + 1 := by omega
        have hq' : List.take (n + 1) acc = acc := by rw [← hn, List.take_length]
        rw [addP_at h1 hn]
        have hv1 := val_eqb acc[n].h vx
        have hv2 := val_eqb acc[n].w vy
        by_cases h3 : acc[n].b = q1
        · by_cases h4 : acc[n].h = vx
          · by_cases h5 : acc[n].w = vy
            · simp only [ld_br, ld_chk', ld_leaf, fd_br, fd_chk', fd_leaf, decide_true, decide_eq_true_eq, if_true, Int.toNat_natCast, Int.natCast_nonneg, Int.ofNat_lt, Int.ofNat_le, Bool.false_eq_true, if_false, bne_iff_ne, beq_iff_eq, ne_eq, not_true_eq_false, not_false_eq_true, Bool.not_eq_true', decide_eq_false_iff_not, reduceCtorEq, rows_length, pcs_length, er_ok, er_ok', ep_ok, ep_ok', dr_er, dp_ep, isRows_rows, isPcs_pcs, toRows_rows, toPcs_pcs, rows_take, rows_drop, pcs_take, pcs_drop, rows_append, pcs_append, ints_length, isInts_ints, toInts_ints, ei_i, ei_ok, mk_headD, ints_take, ints_drop, ints_append, ints_snoc, ints_snoc', List.take_length, Nat.zero_add, Nat.le_refl, er_a, er_b, er_k, er_n, er_s, er_v, ep_a, ep_b, ep_hk, ep_hn, ep_hs, ep_wk, ep_wn, ep_ws, rd_br, rd_chk', rd_leaf, hw, hn', hpos, hr, ep_t1, ep_t3, ep_t5, ok1, ok3, List.headD_cons, List.tail_cons, ci, cst, Nat.reduceAdd, Nat.reduceLeDiff, val_eqb, h3, h4, h5, and_self, ep_len, ep_set, pcs_set, List.length_set, hn]
            · simp only [ld_br, ld_chk', ld_leaf, fd_br, fd_chk', fd_leaf, decide_true, decide_eq_true_eq, if_true, Int.toNat_natCast, Int.natCast_nonneg, Int.ofNat_lt, Int.ofNat_le, Bool.false_eq_true, if_false, bne_iff_ne, beq_iff_eq, ne_eq, not_true_eq_false, not_false_eq_true, Bool.not_eq_true', decide_eq_false_iff_not, reduceCtorEq, rows_length, pcs_length, er_ok, er_ok', ep_ok, ep_ok', dr_er, dp_ep, isRows_rows, isPcs_pcs, toRows_rows, toPcs_pcs, rows_take, rows_drop, pcs_take, pcs_drop, rows_append, pcs_append, ints_length, isInts_ints, toInts_ints, ei_i, ei_ok, mk_headD, ints_take, ints_drop, ints_append, ints_snoc, ints_snoc', List.take_length, Nat.zero_add, Nat.le_refl, er_a, er_b, er_k, er_n, er_s, er_v, ep_a, ep_b, ep_hk, ep_hn, ep_hs, ep_wk, ep_wn, ep_ws, rd_br, rd_chk', rd_leaf, hw, hn', hpos, hr, ep_t1, ep_t3, ep_t5, ok1, ok3, List.headD_cons, List.tail_cons, ci, cst, Nat.reduceAdd, Nat.reduceLeDiff, val_eqb, h3, h4, h5, and_false, ep_len, e2, hq', pcs_snoc, List.length_append, List.length_cons, List.length_nil, hn]
          · simp only [ld_br, ld_chk', ld_leaf, fd_br, fd_chk', fd_leaf, decide_true, decide_eq_true_eq, if_true, Int.toNat_natCast, Int.natCast_nonneg, Int.ofNat_lt, Int.ofNat_le, Bool.false_eq_true, if_false, bne_iff_ne, beq_iff_eq, ne_eq, not_true_eq_false, not_false_eq_true, Bool.not_eq_true', decide_eq_false_iff_not, reduceCtorEq, rows_length, pcs_length, er_ok, er_ok', ep_ok, ep_ok', dr_er, dp_ep, isRows_rows, isPcs_pcs, toRows_rows, toPcs_pcs, rows_take, rows_drop, pcs_take, pcs_drop, rows_append, pcs_append, ints_length, isInts_ints, toInts_ints, ei_i, ei_ok, mk_headD, ints_take, ints_drop, ints_append, ints_snoc, ints_snoc', List.take_length, Nat.zero_add, Nat.le_refl, er_a, er_b, er_k, er_n, er_s, er_v, ep_a, ep_b, ep_hk, ep_hn, ep_hs, ep_wk, ep_wn, ep_ws, rd_br, rd_chk', rd_leaf, hw, hn', hpos, hr, ep_t1, ep_t3, ep_t5, ok1, ok3, List.headD_cons, List.tail_cons, ci, cst, Nat.reduceAdd, Nat.reduceLeDiff, val_eqb, h3, h4, false_and, and_false, ep_len, e2, hq', pcs_snoc, List.length_append, List.length_cons, List.length_nil, hn]
        · simp only [ld_br, ld_chk', ld_leaf, fd_br, fd_chk', fd_leaf, decide_true, decide_eq_true_eq, if_true, Int.toNat_natCast, Int.natCast_nonneg, Int.ofNat_lt, Int.ofNat_le, Bool.false_eq_true, if_false, bne_iff_ne, beq_iff_eq, ne_eq, not_true_eq_false, not_false_eq_true, Bool.not_eq_true', decide_eq_false_iff_not, reduceCtorEq, rows_length, pcs_length, er_ok, er_ok', ep_ok, ep_ok', dr_er, dp_ep, isRows_rows, isPcs_pcs, toRows_rows, toPcs_pcs, rows_take, rows_drop, pcs_take, pcs_drop, rows_append, pcs_append, ints_length, isInts_ints, toInts_ints, ei_i, ei_ok, mk_headD, ints_take, ints_drop, ints_append, ints_snoc, ints_snoc', List.take_length, Nat.zero_add, Nat.le_refl, er_a, er_b, er_k, er_n, er_s, er_v, ep_a, ep_b, ep_hk, ep_hn, ep_hs, ep_wk, ep_wn, ep_ws, rd_br, rd_chk', rd_leaf, hw, hn', hpos, hr, ep_t1, ep_t3, ep_t5, ok1, ok3, List.headD_cons, List.tail_cons, ci, cst, Nat.reduceAdd, Nat.reduceLeDiff, val_eqb, h3, false_and, ep_len, e2, hq', pcs_snoc, List.length_append, List.length_cons, List.length_nil, hn]
  · rintro acc ⟨hi, hlen⟩
    rw [diffG] at hi
    have := k13_0n nl tt (rows x) nl2 t2 (rows y) (some true) true [] (pcs acc) acc.length
    rw [← hi]
    have e : List.take acc.length (pcs acc) = pcs acc := by rw [← pcs_length acc, List.take_length]
    rw [e] at this
    exact congrArg p13.fd this
end Go.Proofs.YtedniogmjhhhmaaDoor
