/-
  Chapter 02 (span): rows behind rows, what is had, the same.
-/
import Derived.Test.YtedniogmjhhhmaaDoorST3
set_option linter.all false
set_option linter.unusedSimpArgs false
set_option linter.unusedVariables false
namespace Go.Proofs.YtedniogmjhhhmaaDoor
open Go Go.Ev

@[simp] theorem ep_ok' (r : Piece) : shOk [Sk.int .i64, Sk.int .i64, Sk.int .i64, Sk.int .i64, Sk.str, Sk.int .i64, Sk.int .i64, Sk.str] (ep r) = true := rfl
theorem ep_a (r : Piece) (d : C) : ((ep r).headD d).i = r.a := rfl
theorem ep_b (r : Piece) (d : C) : ((ep r).tail.headD d).i = r.b := rfl
theorem ep_hk (r : Piece) (d : C) : ((ep r).tail.tail.headD d).i = r.h.k := rfl
theorem ep_hn (r : Piece) (d : C) : ((ep r).tail.tail.tail.headD d).i = r.h.n := rfl
theorem ep_hs (r : Piece) (d : C) : ((ep r).tail.tail.tail.tail.headD d).st = r.h.s := rfl
theorem ep_wk (r : Piece) (d : C) : ((ep r).tail.tail.tail.tail.tail.headD d).i = r.w.k := rfl
theorem ep_wn (r : Piece) (d : C) : ((ep r).tail.tail.tail.tail.tail.tail.headD d).i = r.w.n := rfl
theorem ep_ws (r : Piece) (d : C) : ((ep r).tail.tail.tail.tail.tail.tail.tail.headD d).st = r.w.s := rfl
theorem er_len (r : Row) : (er r).length = 5 := rfl
theorem er_t1 (r : Row) : List.take 1 (List.drop 1 (er r)) = [C.int .i64 r.b] := rfl
theorem er_t3 (r : Row) : List.take 3 (List.drop 2 (er r)) = [C.int .i64 r.v.k, C.int .i64 r.v.n, C.str r.v.s] := rfl
theorem ci (n : Int) : (C.int .i64 n).i = n := rfl
theorem cst (s : List UInt8) : (C.str s).st = s := rfl
theorem ok1 (n : Int) : shOk [Sk.int .i64] [C.int .i64 n] = true := rfl
theorem ok3 (n m : Int) (s : List UInt8) : shOk [Sk.int .i64, Sk.int .i64, Sk.str] [C.int .i64 n, C.int .i64 m, C.str s] = true := rfl
theorem er_set (r : Row) (b : Int) : splice (er r) 1 [C.int .i64 b] = er { r with b := b } := rfl
theorem rows_set (l : List Row) (i : Nat) (r : Row) : (rows l).set i (er r) = rows (l.set i r) := by simp [rows]
theorem rows_snoc (l : List Row) (a b k m : Int) (s : List UInt8) : rows l ++ [[C.int .i64 a, C.int .i64 b, C.int .i64 k, C.int .i64 m, C.str s]] = rows (l ++ [⟨a, b, ⟨k, m, s⟩⟩]) := by simp [rows, er]
theorem rows_nil : rows [] = [] := rfl

/-- Rows with a row behind them; it is one with the last one, if that touches it with the same value. -/
def addR (l : List Row) (x : Row) : List Row := if x.b ≤ x.a then l else if x.v.k = 0 then l else match l.getLast? with
  | none => [x]
  | some w => if w.b = x.a ∧ w.v = x.v then l.set (l.length - 1) { w with b := x.b } else l ++ [x]
theorem addR_len (l : List Row) (x : Row) : (addR l x).length ≤ l.length + 1 := by
  unfold addR
  repeat' split
  all_goals simp
  all_goals rename_i h; simp at h; simp [h]
theorem addR_at {l : List Row} {x : Row} (h1 : ¬ x.b ≤ x.a) (h2 : ¬ x.v.k = 0) {k : Nat} (hk : l.length = k + 1) : addR l x = if (l[k]'(by omega)).b = x.a ∧ (l[k]'(by omega)).v = x.v then l.set k { l[k]'(by omega) with b := x.b } else l ++ [x] := by
  unfold addR
  rw [if_neg h1, if_neg h2]
  have : l.getLast? = some (l[k]'(by omega)) := by
    rw [List.getLast?_eq_getElem?, List.getElem?_eq_getElem (by omega)]
    simp only [hk, Nat.add_sub_cancel]
  rw [this]
  simp only [show l.length - 1 = k by omega]

theorem f33 (l : List Row) (x : Row) (hl : l.length < 4294967290) : (call E2 33 [.buf 0 0 0 l.length, VR x] [.mem 5 0 (rows l)] = some ([.buf 0 0 0 (addR l x).length], [.mem 5 0 (rows (addR l x))])) ∨
    (call E2 33 [.buf 0 0 0 l.length, VR x] [.mem 5 0 (rows l)] = some ([.buf 0 1 0 (addR l x).length], [.mem 5 1 (rows (addR l x))])) := by
  obtain ⟨a, b, k, m, s⟩ := x
  have key : ∀ {r : List V × Hp}, p33.fd (p33.ft [.buf 0 0 0 l.length, VR ⟨a, b, k, m, s⟩] [.mem 5 0 (rows l)]) = some (.out r.1 r.2) → call E2 33 [.buf 0 0 0 l.length, VR ⟨a, b, k, m, s⟩] [.mem 5 0 (rows l)] = some r :=
    fun {r} h => call_of (E := E2) (sh := sh) (ct := ctOf []) (na := 2) (m := 1) ctOf_nil rfl rfl rfl rfl rfl rfl h
  by_cases h1 : b ≤ a
  · left; apply key; rw [t33]
    have : addR l ⟨a, b, k, m, s⟩ = l := by simp [addR, h1]
    rw [this]; simp only [ld_br, ld_chk', ld_leaf, fd_br, fd_chk', fd_leaf, decide_true, decide_eq_true_eq, if_true, Int.toNat_natCast, Int.natCast_nonneg, Int.ofNat_lt, Int.ofNat_le, Bool.false_eq_true, if_false, bne_iff_ne, beq_iff_eq, ne_eq, not_true_eq_false, not_false_eq_true, Bool.not_eq_true', decide_eq_false_iff_not, reduceCtorEq, rows_length, pcs_length, er_ok, er_ok', ep_ok, ep_ok', dr_er, dp_ep, isRows_rows, isPcs_pcs, toRows_rows, toPcs_pcs, rows_take, rows_drop, pcs_take, pcs_drop, rows_append, pcs_append, ints_length, isInts_ints, toInts_ints, ei_i, ei_ok, mk_headD, ints_take, ints_drop, ints_append, ints_snoc, ints_snoc', List.take_length, Nat.zero_add, Nat.le_refl, er_a, er_b, er_k, er_n, er_s, er_v, ep_a, ep_b, ep_hk, ep_hn, ep_hs, ep_wk, ep_wn, ep_ws, h1]
  by_cases h2 : k = 0
  · left; apply key; rw [t33]
    have : addR l ⟨a, b, k, m, s⟩ = l := by simp [addR, h2]
    rw [this]; simp only [ld_br, ld_chk', ld_leaf, fd_br, fd_chk', fd_leaf, decide_true, decide_eq_true_eq, if_true, Int.toNat_natCast, Int.natCast_nonneg, Int.ofNat_lt, Int.ofNat_le, Bool.false_eq_true, if_false, bne_iff_ne, beq_iff_eq, ne_eq, not_true_eq_false, not_false_eq_true, Bool.not_eq_true', decide_eq_false_iff_not, reduceCtorEq, rows_length, pcs_length, er_ok, er_ok', ep_ok, ep_ok', dr_er, dp_ep, isRows_rows, isPcs_pcs, toRows_rows, toPcs_pcs, rows_take, rows_drop, pcs_take, pcs_drop, rows_append, pcs_append, ints_length, isInts_ints, toInts_ints, ei_i, ei_ok, mk_headD, ints_take, ints_drop, ints_append, ints_snoc, ints_snoc', List.take_length, Nat.zero_add, Nat.le_refl, er_a, er_b, er_k, er_n, er_s, er_v, ep_a, ep_b, ep_hk, ep_hn, ep_hs, ep_wk, ep_wn, ep_ws, h1, h2]
  cases hn : l.length with
  | zero =>
    obtain rfl : l = [] := List.eq_nil_of_length_eq_zero hn
    right; rw [← hn]; apply key; rw [t33]
    have : addR [] ⟨a, b, k, m, s⟩ = [⟨a, b, k, m, s⟩] := by simp [addR, h1, h2]
    rw [this]
    simp only [ld_br, ld_chk', ld_leaf, fd_br, fd_chk', fd_leaf, decide_true, decide_eq_true_eq, if_true, Int.toNat_natCast, Int.natCast_nonneg, Int.ofNat_lt, Int.ofNat_le, Bool.false_eq_true, if_false, bne_iff_ne, beq_iff_eq, ne_eq, not_true_eq_false, not_false_eq_true, Bool.not_eq_true', decide_eq_false_iff_not, reduceCtorEq, rows_length, pcs_length, er_ok, er_ok', ep_ok, ep_ok', dr_er, dp_ep, isRows_rows, isPcs_pcs, toRows_rows, toPcs_pcs, rows_take, rows_drop, pcs_take, pcs_drop, rows_append, pcs_append, ints_length, isInts_ints, toInts_ints, ei_i, ei_ok, mk_headD, ints_take, ints_drop, ints_append, ints_snoc, ints_snoc', List.take_length, Nat.zero_add, Nat.le_refl, er_a, er_b, er_k, er_n, er_s, er_v, ep_a, ep_b, ep_hk, ep_hn, ep_hs, ep_wk, ep_wn, ep_ws, h1, h2, List.length_nil]
    rfl
  | succ n =>
    have hn' : n < l.length := by omega
    have hw : IntKind.wrap .i64 ((l.length : Int) - 1) = (n : Int) := by rw [wrap_same (by omega) (by omega)]; omega
    have hv := val_eqb l[n].v ⟨k, m, s⟩
    rw [addR_at h1 h2 hn, ← hn]
    simp only at *
    by_cases h3 : l[n].b = a
    · by_cases h4 : l[n].v = ⟨k, m, s⟩
      · left; apply key; rw [t33]
        simp only [ld_br, ld_chk', ld_leaf, fd_br, fd_chk', fd_leaf, decide_true, decide_eq_true_eq, if_true, Int.toNat_natCast, Int.natCast_nonneg, Int.ofNat_lt, Int.ofNat_le, Bool.false_eq_true, if_false, bne_iff_ne, beq_iff_eq, ne_eq, not_true_eq_false, not_false_eq_true, Bool.not_eq_true', decide_eq_false_iff_not, reduceCtorEq, rows_length, pcs_length, er_ok, er_ok', ep_ok, ep_ok', dr_er, dp_ep, isRows_rows, isPcs_pcs, toRows_rows, toPcs_pcs, rows_take, rows_drop, pcs_take, pcs_drop, rows_append, pcs_append, ints_length, isInts_ints, toInts_ints, ei_i, ei_ok, mk_headD, ints_take, ints_drop, ints_append, ints_snoc, ints_snoc', List.take_length, Nat.zero_add, Nat.le_refl, er_a, er_b, er_k, er_n, er_s, er_v, ep_a, ep_b, ep_hk, ep_hn, ep_hs, ep_wk, ep_wn, ep_ws, h1, h2, hw, hn', rows_getD hn', er_t1, er_t3, ok1, ok3, List.headD_cons, List.tail_cons, ci, cst, Nat.reduceAdd, Nat.reduceLeDiff, hv, h3, h4, and_self, er_len, er_set, rows_set, List.length_set, BEq.rfl, Bool.and_self]
      · right; apply key; rw [t33]
        have h5 : l.length + 1 < 4294967296 := by omega
        simp only [ld_br, ld_chk', ld_leaf, fd_br, fd_chk', fd_leaf, decide_true, decide_eq_true_eq, if_true, Int.toNat_natCast, Int.natCast_nonneg, Int.ofNat_lt, Int.ofNat_le, Bool.false_eq_true, if_false, bne_iff_ne, beq_iff_eq, ne_eq, not_true_eq_false, not_false_eq_true, Bool.not_eq_true', decide_eq_false_iff_not, reduceCtorEq, rows_length, pcs_length, er_ok, er_ok', ep_ok, ep_ok', dr_er, dp_ep, isRows_rows, isPcs_pcs, toRows_rows, toPcs_pcs, rows_take, rows_drop, pcs_take, pcs_drop, rows_append, pcs_append, ints_length, isInts_ints, toInts_ints, ei_i, ei_ok, mk_headD, ints_take, ints_drop, ints_append, ints_snoc, ints_snoc', List.take_length, Nat.zero_add, Nat.le_refl, er_a, er_b, er_k, er_n, er_s, er_v, ep_a, ep_b, ep_hk, ep_hn, ep_hs, ep_wk, ep_wn, ep_ws, h1, h2, hw, hn', rows_getD hn', er_t1, er_t3, ok1, ok3, List.headD_cons, List.tail_cons, ci, cst, Nat.reduceAdd, Nat.reduceLeDiff, hv, h3, h4, and_false, er_len, h5, rows_snoc, List.length_append, List.length_cons, List.length_nil]
    · right; apply key; rw [t33]
      have h5 : l.length + 1 < 4294967296 := by omega
      simp only [ld_br, ld_chk', ld_leaf, fd_br, fd_chk', fd_leaf, decide_true, decide_eq_true_eq, if_true, Int.toNat_natCast, Int.natCast_nonneg, Int.ofNat_lt, Int.ofNat_le, Bool.false_eq_true, if_false, bne_iff_ne, beq_iff_eq, ne_eq, not_true_eq_false, not_false_eq_true, Bool.not_eq_true', decide_eq_false_iff_not, reduceCtorEq, rows_length, pcs_length, er_ok, er_ok', ep_ok, ep_ok', dr_er, dp_ep, isRows_rows, isPcs_pcs, toRows_rows, toPcs_pcs, rows_take, rows_drop, pcs_take, pcs_drop, rows_append, pcs_append, ints_length, isInts_ints, toInts_ints, ei_i, ei_ok, mk_headD, ints_take, ints_drop, ints_append, ints_snoc, ints_snoc', List.take_length, Nat.zero_add, Nat.le_refl, er_a, er_b, er_k, er_n, er_s, er_v, ep_a, ep_b, ep_hk, ep_hn, ep_hs, ep_wk, ep_wn, ep_ws, h1, h2, hw, hn', rows_getD hn', er_t1, er_t3, ok1, ok3, List.headD_cons, List.tail_cons, ci, cst, Nat.reduceAdd, Nat.reduceLeDiff, hv, h3, false_and, er_len, h5, rows_snoc, List.length_append, List.length_cons, List.length_nil]

def s33 : CSpec := fun a h => match a, h with
  | [.buf 0 e 0 n, .agg [.c (.int .i64 a), .c (.int .i64 b), .c (.int .i64 k), .c (.int .i64 m), .c (.str s)]], [.mem 5 e' ys] => if e = e' then
      some ([decide (n = ys.length), isRows ys, decide (n < 4294967290)], [.buf 0 (e + 1) 0 (addR (toRows ys) ⟨a, b, ⟨k, m, s⟩⟩).length], [.mem 5 (e + 1) (rows (addR (toRows ys) ⟨a, b, ⟨k, m, s⟩⟩))]) else none
  | _, _ => none
theorem s33_ok : CSpecOk E 33 s33 := by
  intro a h cs vals h' he hc
  unfold s33 at he
  split at he
  case h_2 => cases he
  rename_i e n a b k m s e' ys
  split at he <;> simp only [Option.some.injEq, Prod.mk.injEq, reduceCtorEq] at he
  rename_i hee
  subst hee
  obtain ⟨rfl, rfl, rfl⟩ := he
  simp only [allT, Bool.and_true, Bool.and_eq_true, decide_eq_true_eq] at hc
  obtain ⟨rfl, h2, h3⟩ := hc
  have hr := rows_of h2
  generalize toRows ys = l at *
  subst hr
  simp only [rows_length] at *
  refine call_ext (f := x33) rfl ?_
  have e1 : reL (fun _ => 0) [O.mem 5 e (rows l)] [V.buf 0 e 0 l.length, V.agg [V.i a, V.i b, V.i k, V.i m, .c (.str s)]] = [V.buf 0 0 0 l.length, VR ⟨a, b, k, m, s⟩] := by
    simp [reL, V.re, ageR]
  have e2 : reK (fun _ => 0) [O.mem 5 e (rows l)] 0 [O.mem 5 e (rows l)] = [O.mem 5 0 (rows l)] := rfl
  unfold x33 xbump
  rw [e1, e2]
  rcases f33 l ⟨a, b, k, m, s⟩ (by omega) with h | h
  · rw [h]; simp [reL, V.re, ageR, bumpA, agesOf, reK, O.re]
  · rw [h]; simp [reL, V.re, ageR, bumpA, agesOf, reK, O.re]
end Go.Proofs.YtedniogmjhhhmaaDoor
