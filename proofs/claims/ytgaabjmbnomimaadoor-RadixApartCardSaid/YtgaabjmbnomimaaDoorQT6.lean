/-
  Chapter 09 (radix), trees, written by a program: what is small; RadixApart; Chapter 09 (radix): what is small; lives; Chapter 09 (radix): the laws, but for their arguments' reading: RadixApart; Chapter 09 (radix): arguments that read as tries, entries.
-/
import Derived.Test.YtgaabjmbnomimaaDoorRP1
set_option linter.all false
namespace Go.Proofs.YtgaabjmbnomimaaDoor
open Go Go.Ev
-- cse
set_option pp.deepTerms true
set_option pp.maxSteps 1000000
set_option pp.funBinderTypes true
set_option pp.coercions.types true
noncomputable abbrev p23 : Par := par E sh (ctOf []) 23 1 0
abbrev s23_0 (nl : Option Bool) (tt : Bool) (xs : List (List C)) (i3 : Int) : Fr × Hp := ([(0, V.c (C.sl 5 nl tt xs)), (3, V.c (C.int IntKind.i64 i3))], [])
noncomputable abbrev b23_0 : Code := loopAt (codeOf E (23)) 0
abbrev x23_0x0 : Ex × Fr × Hp := (Ex.ret, [(2, V.c (C.bool false))], [])
abbrev x23_0x1 (nl : Option Bool) (tt : Bool) (xs : List (List C)) (i3 : Int) : Ex × Fr × Hp := (Ex.exit 0, [(0, V.c (C.sl 5 nl tt xs)), (3, V.c (C.int IntKind.i64 i3)), (10, V.c (C.bool false))], [])
theorem t23_0 (nl : Option Bool) (tt : Bool) (xs : List (List C)) (i3 : Int) : p23.lts b23_0 (s23_0 nl tt xs i3) = (Tr.br (decide (i3 < (↑xs.length : Int))) (Tr.chk (decide (0 ≤ i3)) (Tr.chk true (Tr.chk (decide (i3.toNat < xs.length)) (Tr.chk (shOk [Sk.int IntKind.i64, Sk.int IntKind.i64, Sk.int IntKind.i64, Sk.int IntKind.i64, Sk.str] (xs.getD i3.toNat [])) (Tr.br (decide (100 < (↑((xs.getD i3.toNat []).tail.tail.tail.tail.headD C.pnil).st.length : Int))) (Tr.leaf (R.x x23_0x0)) (Tr.leaf (R.s (s23_0 nl tt xs (IntKind.i64.wrap (i3 + 1)))))))))) (Tr.leaf (R.x (x23_0x1 nl tt xs i3)))) := by kernel_rfl
theorem k23_0x0 : p23.fkx 0 x23_0x0 = (Tr.leaf (R.out [V.c (C.bool false)] [])) := by kernel_rfl
theorem k23_0x1 (nl : Option Bool) (tt : Bool) (xs : List (List C)) (i3 : Int) : p23.fkx 0 (x23_0x1 nl tt xs i3) = (Tr.leaf (R.out [V.c (C.bool true)] [])) := by kernel_rfl
theorem t23 (nl : Option Bool) (tt : Bool) (xs : List (List C)) : p23.ft ([V.c (C.sl 5 nl tt xs)]) ([]) = (Tr.br (decide (70 < (↑xs.length : Int))) (Tr.leaf (R.out [V.c (C.bool false)] [])) (Tr.ls 0 (s23_0 nl tt xs (0)))) := by kernel_rfl
def s23 : CSpec := fun a h => match a, h with
  | [.c (.sl 5 nl tt xs)], [] => some ([isRows xs], [V.b (shortR (toRows xs))], [])
  | _, _ => none
variable (dd : Nat)
def s61 : CSpec := fun a h => match a, h with
  | [.agg [.c (.str s), .c (.sl 5 rn rt xs), .c (.sl 3 kn kt ys)], .c (.int .i64 n), .c (.int .i64 d)], [] => some ([isRows xs, isL ys, decide (depL (decL ys) < dd), decide (0 ≤ n), decide (n ≤ 1000), decide (-1000 ≤ d), decide (d ≤ 1000), lensT (.node s (toRows xs) (decL ys))], [V.i (leftT (.node s (toRows xs) (decL ys)) n d)], [])
  | _, _ => none
noncomputable abbrev p61 : Par := par E sh (ctOf [(23, s23), (61, s61 dd)]) 61 3 0
abbrev s61_0 (s : List UInt8) (rn : Option Bool) (rt : Bool) (xs : List (List C)) (kn : Option Bool) (kt : Bool) (ys : List (List C)) (d : Int) (i1 : Int) (i7 : Int) : Fr × Hp := ([(1, V.c (C.int IntKind.i64 i1)), (2, V.c (C.int IntKind.i64 d)), (3, V.ptr 0 0 0 0), (7, V.c (C.int IntKind.i64 i7))], [O.box [V.c (C.str s), V.c (C.sl 5 rn rt xs), V.c (C.sl 3 kn kt ys)]])
noncomputable abbrev b61_0 : Code := loopAt (codeOf E (61)) 0
abbrev x61_0x0 (s : List UInt8) (rn : Option Bool) (rt : Bool) (xs : List (List C)) (kn : Option Bool) (kt : Bool) (ys : List (List C)) (d : Int) (i1 : Int) (i7 : Int) : Ex × Fr × Hp := (Ex.exit 0, [(1, V.c (C.int IntKind.i64 i1)), (2, V.c (C.int IntKind.i64 d)), (3, V.ptr 0 0 0 0), (7, V.c (C.int IntKind.i64 i7)), (35, V.c (C.bool false))], [O.box [V.c (C.str s), V.c (C.sl 5 rn rt xs), V.c (C.sl 3 kn kt ys)]])
theorem t61_0 (s : List UInt8) (rn : Option Bool) (rt : Bool) (xs : List (List C)) (kn : Option Bool) (kt : Bool) (ys : List (List C)) (d : Int) (i1 : Int) (i7 : Int) : (p61 dd).lts b61_0 (s61_0 s rn rt xs kn kt ys d i1 i7) = (Tr.br (decide (i7 < (↑ys.length : Int))) (Tr.br (decide (0 < i1)) (Tr.chk (decide (0 ≤ i7)) (Tr.chk true (Tr.chk (decide (i7.toNat < ys.length)) (Tr.chk (shOk [Sk.str, Sk.sl 5, Sk.sl 3] (ys.getD i7.toNat [])) (Tr.chk (isRows ((ys.getD i7.toNat []).tail.headD C.pnil).xs) (Tr.chk (isL ((ys.getD i7.toNat []).tail.tail.headD C.pnil).xs) (Tr.chk (decide (depL (decL ((ys.getD i7.toNat []).tail.tail.headD C.pnil).xs) < dd)) (Tr.chk (decide (0 ≤ i1)) (Tr.chk (decide (i1 ≤ 1000)) (Tr.chk (decide (-1000 ≤ IntKind.i64.wrap (d - 1))) (Tr.chk (decide (IntKind.i64.wrap (d - 1) ≤ 1000)) (Tr.chk (lensT (Nd.node ((ys.getD i7.toNat []).headD C.pnil).st (toRows ((ys.getD i7.toNat []).tail.headD C.pnil).xs) (decL ((ys.getD i7.toNat []).tail.tail.headD C.pnil).xs))) (Tr.leaf (R.s (s61_0 s rn rt xs kn kt ys d (leftT (Nd.node ((ys.getD i7.toNat []).headD C.pnil).st (toRows ((ys.getD i7.toNat []).tail.headD C.pnil).xs) (decL ((ys.getD i7.toNat []).tail.tail.headD C.pnil).xs)) i1 (IntKind.i64.wrap (d - 1))) (IntKind.i64.wrap (i7 + 1))))))))))))))))) (Tr.leaf (R.x (x61_0x0 s rn rt xs kn kt ys d i1 i7)))) (Tr.leaf (R.x (x61_0x0 s rn rt xs kn kt ys d i1 i7)))) := by kernel_rfl
theorem k61_0x0 (dd : Nat) (s : List UInt8) (rn : Option Bool) (rt : Bool) (xs : List (List C)) (kn : Option Bool) (kt : Bool) (ys : List (List C)) (d : Int) (i1 : Int) (i7 : Int) : (p61 dd).fkx 0 (x61_0x0 s rn rt xs kn kt ys d i1 i7) = (Tr.leaf (R.out [V.c (C.int IntKind.i64 i1)] [])) := by kernel_rfl
theorem t61 (s : List UInt8) (rn : Option Bool) (rt : Bool) (xs : List (List C)) (kn : Option Bool) (kt : Bool) (ys : List (List C)) (n : Int) (d : Int) : (p61 dd).ft ([V.agg [V.c (C.str s), V.c (C.sl 5 rn rt xs), V.c (C.sl 3 kn kt ys)], V.i n, V.i d]) ([]) = (Tr.chk true (Tr.br (decide (d < 1)) (Tr.leaf (R.out [V.c (C.int IntKind.i64 0)] [])) (Tr.br (decide (IntKind.i64.wrap (IntKind.i64.wrap (n - 1) - IntKind.i64.wrap ((↑s.length : Int).tdiv 50)) < 1)) (Tr.leaf (R.out [V.c (C.int IntKind.i64 0)] [])) (Tr.chk (isRows xs) (Tr.br (!shortR (toRows xs)) (Tr.leaf (R.out [V.c (C.int IntKind.i64 0)] [])) (Tr.ls 0 (s61_0 s rn rt xs kn kt ys d (IntKind.i64.wrap (IntKind.i64.wrap (n - 1) - IntKind.i64.wrap ((↑s.length : Int).tdiv 50))) (0)))))))) := by kernel_rfl
noncomputable abbrev p22 : Par := par E sh (ctOf [(61, s61 dd)]) 22 1 0
theorem t22 (s : List UInt8) (rn : Option Bool) (rt : Bool) (xs : List (List C)) (kn : Option Bool) (kt : Bool) (ys : List (List C)) : (p22 dd).ft ([V.agg [V.c (C.str s), V.c (C.sl 5 rn rt xs), V.c (C.sl 3 kn kt ys)]]) ([]) = (Tr.chk (isRows xs) (Tr.chk (isL ys) (Tr.chk (decide (depL (decL ys) < dd)) (Tr.chk true (Tr.chk true (Tr.chk true (Tr.chk true (Tr.chk (lensT (Nd.node s (toRows xs) (decL ys))) (Tr.leaf (R.out [V.c (C.bool (decide (0 < leftT (Nd.node s (toRows xs) (decL ys)) 400 60)))] [])))))))))) := by kernel_rfl
def smallR (n : Int) (t : Nd) : Bool := decide (0 < leftT t n 60)
def s22 : CSpec := fun a h => match a, h with
  | [.agg [.c (.str s), .c (.sl 5 rn rt xs), .c (.sl 3 kn kt ys)]], [] => some ([isRows xs, isL ys, lensT (.node s (toRows xs) (decL ys))], [V.b (smallR 400 (.node s (toRows xs) (decL ys)))], [])
  | _, _ => none
def s24 : CSpec := fun a h => match a, h with
  | [], [] => some ([], [V.b true], [])
  | _, _ => none
noncomputable abbrev p6 : Par := par E sh (ctOf [(22, s22), (23, s23), (24, s24), (25, s25), (26, s26), (27, s27), (28, s28)]) 6 4 0
abbrev c6_1 (s : List UInt8) (xs : List (List C)) (ys : List (List C)) (p : List UInt8) (zs : List (List C)) := (putP (Nd.node s (toRows xs) (decL ys)) p (toRows zs))
abbrev c6_2 (s : List UInt8) (xs : List (List C)) (ys : List (List C)) (p : List UInt8) (zs : List (List C)) := (Nd.node (c6_1 s xs ys p zs).fst.lab (toRows (rows (c6_1 s xs ys p zs).fst.rows)) (decL (encL (c6_1 s xs ys p zs).fst.kids)))
theorem t6 (s : List UInt8) (xs : List (List C)) (ys : List (List C)) (p : List UInt8) (zs : List (List C)) (o : List UInt8) : p6.ft ([V.agg [V.c (C.str s), V.c (C.sl 5 none false xs), V.c (C.sl 3 none false ys)], V.c (C.str p), V.c (C.sl 5 none false zs), V.c (C.str o)]) ([]) = (Tr.chk (isRows xs) (Tr.chk (isL ys) (Tr.chk (lensT (Nd.node s (toRows xs) (decL ys))) (Tr.br (!smallR 400 (Nd.node s (toRows xs) (decL ys))) (Tr.leaf (R.out [V.c (C.bool true)] [])) (Tr.br (decide (100 < (↑p.length : Int))) (Tr.leaf (R.out [V.c (C.bool true)] [])) (Tr.chk (isRows zs) (Tr.br (!shortR (toRows zs)) (Tr.leaf (R.out [V.c (C.bool true)] [])) (Tr.br (decide (100 < (↑o.length : Int))) (Tr.leaf (R.out [V.c (C.bool true)] [])) (Tr.chk (isRows xs) (Tr.chk (isL ys) (Tr.chk (isRows zs) (Tr.chk true (Tr.br ((c6_1 s xs ys p zs).snd != 0) (Tr.leaf (R.out [V.c (C.bool true)] [])) (Tr.br (!o == p) (Tr.chk (isRows xs) (Tr.chk (isL ys) (Tr.chk (isRows (rows (c6_1 s xs ys p zs).fst.rows)) (Tr.chk (isL (encL (c6_1 s xs ys p zs).fst.kids)) (Tr.chk (isRows (rows (getR (Nd.node s (toRows xs) (decL ys)) o))) (Tr.chk (isRows (rows (getR (c6_2 s xs ys p zs) o))) (Tr.chk (decide ((rows (getR (Nd.node s (toRows xs) (decL ys)) o)).length ≤ 9223372036854775807)) (Tr.br (!decide (toRows (rows (getR (Nd.node s (toRows xs) (decL ys)) o)) = toRows (rows (getR (c6_2 s xs ys p zs) o)))) (Tr.leaf (R.out [V.c (C.bool false)] [])) (Tr.chk (isRows (rows (c6_1 s xs ys p zs).fst.rows)) (Tr.chk (isL (encL (c6_1 s xs ys p zs).fst.kids)) (Tr.chk (isRows (rows (getR (c6_2 s xs ys p zs) p))) (Tr.chk (isRows zs) (Tr.chk (decide ((rows (getR (c6_2 s xs ys p zs) p)).length ≤ 9223372036854775807)) (Tr.br (decide (toRows (rows (getR (c6_2 s xs ys p zs) p)) = toRows zs)) (Tr.chk (isRows (rows (c6_1 s xs ys p zs).fst.rows)) (Tr.chk (isL (encL (c6_1 s xs ys p zs).fst.kids)) (Tr.br (checkT (c6_2 s xs ys p zs) == 0) (Tr.leaf (R.out [V.c (C.bool true)] [])) (Tr.leaf (R.out [V.c (C.bool false)] []))))) (Tr.leaf (R.out [V.c (C.bool false)] [])))))))))))))))) (Tr.chk (isRows (rows (c6_1 s xs ys p zs).fst.rows)) (Tr.chk (isL (encL (c6_1 s xs ys p zs).fst.kids)) (Tr.chk (isRows (rows (getR (c6_2 s xs ys p zs) p))) (Tr.chk (isRows zs) (Tr.chk (decide ((rows (getR (c6_2 s xs ys p zs) p)).length ≤ 9223372036854775807)) (Tr.br (decide (toRows (rows (getR (c6_2 s xs ys p zs) p)) = toRows zs)) (Tr.chk (isRows (rows (c6_1 s xs ys p zs).fst.rows)) (Tr.chk (isL (encL (c6_1 s xs ys p zs).fst.kids)) (Tr.br (checkT (c6_2 s xs ys p zs) == 0) (Tr.leaf (R.out [V.c (C.bool true)] [])) (Tr.leaf (R.out [V.c (C.bool false)] []))))) (Tr.leaf (R.out [V.c (C.bool false)] [])))))))))))))))))))))) := by kernel_rfl
end Go.Proofs.YtgaabjmbnomimaaDoor
namespace Go.Proofs.YtgaabjmbnomimaaDoor
open Go Go.Ev
theorem f23 (l : List Row) (nl : Option Bool) (tt : Bool) : call E 23 [.c (.sl 5 nl tt (rows l))] [] = some ([V.b (shortR l)], []) := by
  have hct : (ctOf []).ok E := ctOf_nil
  refine call_of (E := E) (sh := sh) (ct := ctOf []) (na := 1) (m := 0) hct rfl rfl rfl rfl rfl rfl ?_
  rw [t23, rows_length, fd_br]
  unfold shortR
  by_cases c0 : (70 : Int) < l.length
  · rw [if_pos (by simpa using c0), fd_leaf]
    have : ¬ l.length ≤ 70 := by omega
    simp [this]
  rw [if_neg (by simpa using c0)]
  have c0' : l.length ≤ 70 := by omega
  simp only [c0', decide_true, Bool.true_and]
  refine fd_post hct (by kernel_rfl) rfl (list_post (p := p23) hct (b := b23_0) l.length (fun k (_ : Unit) => s23_0 nl tt (rows l) k) (fun k _ => ((l.drop k).all fun r => decide (r.v.s.length ≤ 100)) = (l.all fun r => decide (r.v.s.length ≤ 100))) _ ?_ ?_ 0 (Nat.zero_le _) () rfl)
  · rintro k _ hk hi
    rw [List.drop_eq_getElem_cons hk, List.all_cons] at hi
    rw [t23_0]
    simp only [ld_br, ld_chk', ld_leaf, fd_br, fd_chk', fd_leaf, decide_true, decide_eq_true_eq, if_true, Int.toNat_natCast, Int.natCast_nonneg, Int.ofNat_lt, Int.ofNat_le, Bool.false_eq_true, if_false, bne_iff_ne, beq_iff_eq, ne_eq, not_true_eq_false, not_false_eq_true, Bool.not_eq_true', decide_eq_false_iff_not, reduceCtorEq, rows_length, pcs_length, er_ok, er_ok', ep_ok, ep_ok', dr_er, dp_ep, isRows_rows, isPcs_pcs, toRows_rows, toPcs_pcs, rows_take, rows_drop, pcs_take, pcs_drop, rows_append, pcs_append, ints_length, isInts_ints, toInts_ints, ei_i, ei_ok, mk_headD, ints_take, ints_drop, ints_append, ints_snoc, ints_snoc', List.take_length, Nat.zero_add, Nat.le_refl, er_a, er_b, er_k, er_n, er_s, er_v, ep_a, ep_b, ep_hk, ep_hn, ep_hs, ep_wk, ep_wn, ep_ws, hk, rows_getD hk, wrap_succ (show k < 9223372036854775807 by omega)]
    by_cases c : (100 : Int) < l[k].v.s.length
    · have : ¬ l[k].v.s.length ≤ 100 := by omega
      simp only [this, decide_false, Bool.false_and] at hi
      exact .inr ⟨x23_0x0, by simp, by rw [k23_0x0, fd_leaf, ← hi], by rw [if_pos c]⟩
    · have : l[k].v.s.length ≤ 100 := by omega
      simp only [this, decide_true, Bool.true_and] at hi
      exact .inl ⟨(), hi, by rw [if_neg c]⟩
  · rintro _ hi
    rw [List.drop_length, List.all_nil] at hi
    rw [t23_0]
    exact ⟨x23_0x1 nl tt (rows l) l.length, by simp, by rw [k23_0x1, fd_leaf, ← hi], by simp only [ld_br, ld_chk', ld_leaf, fd_br, fd_chk', fd_leaf, decide_true, decide_eq_true_eq, if_true, Int.toNat_natCast, Int.natCast_nonneg, Int.ofNat_lt, Int.ofNat_le, Bool.false_eq_true, if_false, bne_iff_ne, beq_iff_eq, ne_eq, not_true_eq_false, not_false_eq_true, Bool.not_eq_true', decide_eq_false_iff_not, reduceCtorEq, rows_length, pcs_length, er_ok, er_ok', ep_ok, ep_ok', dr_er, dp_ep, isRows_rows, isPcs_pcs, toRows_rows, toPcs_pcs, rows_take, rows_drop, pcs_take, pcs_drop, rows_append, pcs_append, ints_length, isInts_ints, toInts_ints, ei_i, ei_ok, mk_headD, ints_take, ints_drop, ints_append, ints_snoc, ints_snoc', List.take_length, Nat.zero_add, Nat.le_refl, er_a, er_b, er_k, er_n, er_s, er_v, ep_a, ep_b, ep_hk, ep_hn, ep_hs, ep_wk, ep_wn, ep_ws, Int.lt_irrefl]⟩
theorem s23_ok : CSpecOk E 23 s23 := by
  intro a h cs vals h' he hc
  unfold s23 at he
  split at he <;> simp only [Option.some.injEq, Prod.mk.injEq, reduceCtorEq] at he
  rename_i nl tt xs
  obtain ⟨rfl, rfl, rfl⟩ := he
  simp only [allT, Bool.and_true, Bool.and_eq_true, decide_eq_true_eq] at hc
  obtain ⟨l, rfl⟩ := rows_ex hc
  rw [toRows_rows]
  exact f23 l nl tt
theorem f61 (dd : Nat) (ih : CSpecOk E 61 (s61 dd)) (s : List UInt8) (rn : Option Bool) (rt : Bool) (rs : List Row) (kn : Option Bool) (kt : Bool) (ks : List Nd) (n d : Int) (hd : depL ks < dd + 1) (h0 : 0 ≤ n) (h1 : n ≤ 1000) (h2 : -1000 ≤ d) (h3 : d ≤ 1000) (hl : lensT (.node s rs ks) = true) :
    call E 61 [.agg [.c (.str s), .c (.sl 5 rn rt (rows rs)), .c (.sl 3 kn kt (encL ks))], V.i n, V.i d] [] = some ([V.i (leftT (.node s rs ks) n d)], []) := by
  have hct : (ctOf [(23, s23), (61, s61 dd)]).ok E := ctOf_cons s23_ok (ctOf_cons ih ctOf_nil)
  refine call_of (E := E) (sh := sh) (ct := ctOf [(23, s23), (61, s61 dd)]) (na := 3) (m := 0) hct rfl rfl rfl rfl rfl rfl ?_
  show (p61 dd).fd ((p61 dd).ft _ _) = _
  rw [lensT] at hl
  simp only [Bool.and_eq_true, decide_eq_true_eq] at hl
  obtain ⟨⟨⟨l1, l2⟩, l4⟩, l3⟩ := hl
  have w0 : ((s.length : Int).tdiv 50) = ((s.length / 50 : Nat) : Int) := rfl
  have w1 : IntKind.wrap .i64 (IntKind.wrap .i64 (n - 1) - IntKind.wrap .i64 ((s.length : Int).tdiv 50)) = n - 1 - ((s.length / 50 : Nat) : Int) := by
    rw [w0, wrap_same (n := n - 1) (by omega) (by omega), wrap_same (n := ((s.length / 50 : Nat) : Int)) (by omega) (by omega), wrap_same (by omega) (by omega)]
  rw [t61, w1]
  simp only [nd_ok, nd_lab, nd_rows, nd_kids, encL_length, isL_enc, decL_enc, wrap_hd, hd_pos, ld_br, ld_chk', ld_leaf, fd_br, fd_chk', fd_leaf, decide_true, decide_eq_true_eq, if_true, Int.toNat_natCast, Int.natCast_nonneg, Int.ofNat_lt, Int.ofNat_le, Bool.false_eq_true, if_false, bne_iff_ne, beq_iff_eq, ne_eq, not_true_eq_false, not_false_eq_true, Bool.not_eq_true', decide_eq_false_iff_not, reduceCtorEq, rows_length, pcs_length, er_ok, er_ok', ep_ok, ep_ok', dr_er, dp_ep, isRows_rows, isPcs_pcs, toRows_rows, toPcs_pcs, rows_take, rows_drop, pcs_take, pcs_drop, rows_append, pcs_append, ints_length, isInts_ints, toInts_ints, ei_i, ei_ok, mk_headD, ints_take, ints_drop, ints_append, ints_snoc, ints_snoc', List.take_length, Nat.zero_add, Nat.le_refl, er_a, er_b, er_k, er_n, er_s, er_v, ep_a, ep_b, ep_hk, ep_hn, ep_hs, ep_wk, ep_wn, ep_ws]
  rw [leftT]
  have hm : n - 1 - ((s.length / 50 : Nat) : Int) ≤ 1000 := by omega
  generalize n - 1 - ((s.length / 50 : Nat) : Int) = m at *
  by_cases c1 : d < 1
  · simp [c1]
  rw [if_neg c1]
  by_cases c2 : m < 1
  · simp [c2]
  rw [if_neg c2]
  by_cases c3 : shortR rs = false
  · simp [c3]
  rw [if_neg c3, if_neg (show ¬ (d < 1 ∨ m < 1 ∨ shortR rs = false) from fun h => h.elim c1 fun h => h.elim c2 c3)]
  have hm0 : 0 ≤ m := by omega
  have w2 : IntKind.wrap .i64 (d - 1) = d - 1 := wrap_same (by omega) (by omega)
  refine fd_post hct (by kernel_rfl) rfl (list_post (p := p61 dd) hct (b := b61_0) ks.length (fun k (m : Int) => s61_0 s rn rt (rows rs) kn kt (encL ks) d m k) (fun k m' => leftL (ks.drop k) m' (d - 1) = leftL ks m (d - 1) ∧ 0 ≤ m' ∧ m' ≤ 1000) _ ?_ ?_ 0 (Nat.zero_le _) m ⟨rfl, hm0, hm⟩)
  · rintro k m' hk ⟨hi, hm1, hm2⟩
    rw [List.drop_eq_getElem_cons hk, leftL_cons] at hi
    have hkid : depL ks[k].kids < dd := by have := depL_kid (List.getElem_mem hk); omega
    rw [t61_0]
    by_cases c : 0 < m'
    · rw [if_pos c] at hi
      have hb := leftT_le ks[k] m' (d - 1) hm1
      refine .inl ⟨leftT ks[k] m' (d - 1), ⟨hi, hb.1, by omega⟩, ?_⟩
      simp only [nd_ok, nd_lab, nd_rows, nd_kids, encL_length, isL_enc, decL_enc, wrap_hd, hd_pos, ld_br, ld_chk', ld_leaf, fd_br, fd_chk', fd_leaf, decide_true, decide_eq_true_eq, if_true, Int.toNat_natCast, Int.natCast_nonneg, Int.ofNat_lt, Int.ofNat_le, Bool.false_eq_true, if_false, bne_iff_ne, beq_iff_eq, ne_eq, not_true_eq_false, not_false_eq_true, Bool.not_eq_true', decide_eq_false_iff_not, reduceCtorEq, rows_length, pcs_length, er_ok, er_ok', ep_ok, ep_ok', dr_er, dp_ep, isRows_rows, isPcs_pcs, toRows_rows, toPcs_pcs, rows_take, rows_drop, pcs_take, pcs_drop, rows_append, pcs_append, ints_length, isInts_ints, toInts_ints, ei_i, ei_ok, mk_headD, ints_take, ints_drop, ints_append, ints_snoc, ints_snoc', List.take_length, Nat.zero_add, Nat.le_refl, er_a, er_b, er_k, er_n, er_s, er_v, ep_a, ep_b, ep_hk, ep_hn, ep_hs, ep_wk, ep_wn, ep_ws, hk, encL_getD hk, nd_node, hkid, w2, hm1, hm2, c, show -1000 ≤ d - 1 by omega, show d - 1 ≤ 1000 by omega, lensL_mem l3 (List.getElem_mem hk), wrap_succ (show k < 9223372036854775807 by omega)]
    · rw [if_neg c] at hi
      exact .inr ⟨x61_0x0 s rn rt (rows rs) kn kt (encL ks) d m' k, by simp, by rw [k61_0x0, fd_leaf, ← hi], by simp only [nd_ok, nd_lab, nd_rows, nd_kids, encL_length, isL_enc, decL_enc, wrap_hd, hd_pos, ld_br, ld_chk', ld_leaf, fd_br, fd_chk', fd_leaf, decide_true, decide_eq_true_eq, if_true, Int.toNat_natCast, Int.natCast_nonneg, Int.ofNat_lt, Int.ofNat_le, Bool.false_eq_true, if_false, bne_iff_ne, beq_iff_eq, ne_eq, not_true_eq_false, not_false_eq_true, Bool.not_eq_true', decide_eq_false_iff_not, reduceCtorEq, rows_length, pcs_length, er_ok, er_ok', ep_ok, ep_ok', dr_er, dp_ep, isRows_rows, isPcs_pcs, toRows_rows, toPcs_pcs, rows_take, rows_drop, pcs_take, pcs_drop, rows_append, pcs_append, ints_length, isInts_ints, toInts_ints, ei_i, ei_ok, mk_headD, ints_take, ints_drop, ints_append, ints_snoc, ints_snoc', List.take_length, Nat.zero_add, Nat.le_refl, er_a, er_b, er_k, er_n, er_s, er_v, ep_a, ep_b, ep_hk, ep_hn, ep_hs, ep_wk, ep_wn, ep_ws, hk, c]⟩
  · rintro m' ⟨hi, hm1, hm2⟩
    rw [List.drop_length, leftL] at hi
    rw [t61_0]
    exact ⟨x61_0x0 s rn rt (rows rs) kn kt (encL ks) d m' ks.length, by simp, by rw [k61_0x0, fd_leaf, ← hi], by simp only [nd_ok, nd_lab, nd_rows, nd_kids, encL_length, isL_enc, decL_enc, wrap_hd, hd_pos, ld_br, ld_chk', ld_leaf, fd_br, fd_chk', fd_leaf, decide_true, decide_eq_true_eq, if_true, Int.toNat_natCast, Int.natCast_nonneg, Int.ofNat_lt, Int.ofNat_le, Bool.false_eq_true, if_false, bne_iff_ne, beq_iff_eq, ne_eq, not_true_eq_false, not_false_eq_true, Bool.not_eq_true', decide_eq_false_iff_not, reduceCtorEq, rows_length, pcs_length, er_ok, er_ok', ep_ok, ep_ok', dr_er, dp_ep, isRows_rows, isPcs_pcs, toRows_rows, toPcs_pcs, rows_take, rows_drop, pcs_take, pcs_drop, rows_append, pcs_append, ints_length, isInts_ints, toInts_ints, ei_i, ei_ok, mk_headD, ints_take, ints_drop, ints_append, ints_snoc, ints_snoc', List.take_length, Nat.zero_add, Nat.le_refl, er_a, er_b, er_k, er_n, er_s, er_v, ep_a, ep_b, ep_hk, ep_hn, ep_hs, ep_wk, ep_wn, ep_ws, Int.lt_irrefl]⟩
theorem s61_ok : ∀ d, CSpecOk E 61 (s61 d)
  | 0 => by
    intro a h cs vals h' he hc
    unfold s61 at he
    split at he <;> simp only [Option.some.injEq, Prod.mk.injEq, reduceCtorEq] at he
    obtain ⟨rfl, rfl, rfl⟩ := he
    simp [allT] at hc
  | d + 1 => by
    intro a h cs vals h' he hc
    unfold s61 at he
    split at he <;> simp only [Option.some.injEq, Prod.mk.injEq, reduceCtorEq] at he
    rename_i s rn rt xs kn kt ys n k
    obtain ⟨rfl, rfl, rfl⟩ := he
    simp only [allT, Bool.and_true, Bool.and_eq_true, decide_eq_true_eq] at hc
    obtain ⟨h1, h2, h3, h4, h5, h6, h7, h8⟩ := hc
    obtain ⟨rs, rfl⟩ := rows_ex h1
    obtain ⟨ks, rfl⟩ := isL_ex h2
    simp only [toRows_rows, decL_enc] at *
    exact f61 d (s61_ok d) s rn rt rs kn kt ks n k h3 h4 h5 h6 h7 h8
theorem f22 (t : Nd) (rn : Option Bool) (rt : Bool) (kn : Option Bool) (kt : Bool) (hl : lensT t = true) :
    call E 22 [.agg [.c (.str t.lab), .c (.sl 5 rn rt (rows t.rows)), .c (.sl 3 kn kt (encL t.kids))]] [] = some ([V.b (smallR 400 t)], []) := by
  have hct : (ctOf [(61, s61 (depL t.kids + 1))]).ok E := ctOf_cons (s61_ok _) ctOf_nil
  refine call_of (E := E) (sh := sh) (ct := ctOf [(61, s61 (depL t.kids + 1))]) (na := 1) (m := 0) hct rfl rfl rfl rfl rfl rfl ?_
  show (p22 (depL t.kids + 1)).fd ((p22 (depL t.kids + 1)).ft _ _) = _
  rw [t22]
  simp only [nd_ok, nd_lab, nd_rows, nd_kids, encL_length, isL_enc, decL_enc, wrap_hd, hd_pos, ld_br, ld_chk', ld_leaf, fd_br, fd_chk', fd_leaf, decide_true, decide_eq_true_eq, if_true, Int.toNat_natCast, Int.natCast_nonneg, Int.ofNat_lt, Int.ofNat_le, Bool.false_eq_true, if_false, bne_iff_ne, beq_iff_eq, ne_eq, not_true_eq_false, not_false_eq_true, Bool.not_eq_true', decide_eq_false_iff_not, reduceCtorEq, rows_length, pcs_length, er_ok, er_ok', ep_ok, ep_ok', dr_er, dp_ep, isRows_rows, isPcs_pcs, toRows_rows, toPcs_pcs, rows_take, rows_drop, pcs_take, pcs_drop, rows_append, pcs_append, ints_length, isInts_ints, toInts_ints, ei_i, ei_ok, mk_headD, ints_take, ints_drop, ints_append, ints_snoc, ints_snoc', List.take_length, Nat.zero_add, Nat.le_refl, er_a, er_b, er_k, er_n, er_s, er_v, ep_a, ep_b, ep_hk, ep_hn, ep_hs, ep_wk, ep_wn, ep_ws, nd_node, show depL t.kids < depL t.kids + 1 by omega, hl, smallR]
theorem s22_ok : CSpecOk E 22 s22 := by
  intro a h cs vals h' he hc
  unfold s22 at he
  split at he <;> simp only [Option.some.injEq, Prod.mk.injEq, reduceCtorEq] at he
  rename_i s rn rt xs kn kt ys
  obtain ⟨rfl, rfl, rfl⟩ := he
  simp only [allT, Bool.and_true, Bool.and_eq_true, decide_eq_true_eq] at hc
  obtain ⟨h1, h2, h3⟩ := hc
  obtain ⟨rs, rfl⟩ := rows_ex h1
  obtain ⟨ks, rfl⟩ := isL_ex h2
  simp only [toRows_rows, decL_enc] at *
  exact f22 (.node s rs ks) rn rt kn kt h3
set_option maxRecDepth 100000 in
theorem f24 : call E 24 [] [] = some ([V.b true], []) := call_iff.2 ⟨200, by kernel_rfl⟩
theorem s24_ok : CSpecOk E 24 s24 := by
  intro a h cs vals h' he hc
  unfold s24 at he
  split at he <;> simp only [Option.some.injEq, Prod.mk.injEq, reduceCtorEq] at he
  obtain ⟨rfl, rfl, rfl⟩ := he
  exact f24
end Go.Proofs.YtgaabjmbnomimaaDoor
namespace Go.Proofs.YtgaabjmbnomimaaDoor
open Go Go.Ev
theorem getR_right {t : Nd} {p : List UInt8} : right (getR t p) = true := by
  rw [getR_look]
  split
  · rename_i h
    have hk := (okR_iff.1 h).2.2
    have : ∀ l : List Ent, (∀ e ∈ l, right e.2 = true) → right (look l p) = true := by
      intro l
      induction l with
      | nil => intro _; rfl
      | cons e r ih =>
        intro h
        simp only [look]
        split
        · exact h e (by simp)
        · exact ih fun x hx => h x (by simp [hx])
    exact this _ (entL_right _ _ hk)
  · rfl
/-- RadixApart. -/
theorem f6 (t : Nd) (p : List UInt8) (l : List Row) (o : List UInt8) (hl : lensT t = true) :
    call E 6 [VT t, .c (.str p), .c (.sl 5 none false (rows l)), .c (.str o)] [] = some ([V.b true], []) := by
  have hct : (ctOf [(22, s22), (23, s23), (24, s24), (25, s25), (26, s26), (27, s27), (28, s28)]).ok E :=
    ctOf_cons s22_ok (ctOf_cons s23_ok (ctOf_cons s24_ok (ctOf_cons s25_ok (ctOf_cons s26_ok (ctOf_cons s27_ok (ctOf_cons s28_ok ctOf_nil))))))
  refine call_of (E := E) (sh := sh) (ct := ctOf [(22, s22), (23, s23), (24, s24), (25, s25), (26, s26), (27, s27), (28, s28)]) (na := 4) (m := 0) hct rfl rfl rfl rfl rfl rfl ?_
  rw [t6]
  have e1 : c6_1 t.lab (rows t.rows) (encL t.kids) p (rows l) = putP t p l := by unfold c6_1; rw [toRows_rows, decL_enc, Nd.eta, toRows_rows]
  have e2 : c6_2 t.lab (rows t.rows) (encL t.kids) p (rows l) = (putP t p l).1 := by unfold c6_2; rw [e1, toRows_rows, decL_enc, Nd.eta]
  have hg : ∀ t q, (getR t q).length ≤ 9223372036854775807 := fun t q => by have := right_len4 (getR_right (t := t) (p := q)); omega
  simp only [nd_ok, nd_lab, nd_rows, nd_kids, encL_length, isL_enc, decL_enc, wrap_hd, hd_pos, ld_br, ld_chk', ld_leaf, fd_br, fd_chk', fd_leaf, decide_true, decide_eq_true_eq, if_true, Int.toNat_natCast, Int.natCast_nonneg, Int.ofNat_lt, Int.ofNat_le, Bool.false_eq_true, if_false, bne_iff_ne, beq_iff_eq, ne_eq, not_true_eq_false, not_false_eq_true, Bool.not_eq_true', decide_eq_false_iff_not, reduceCtorEq, rows_length, pcs_length, er_ok, er_ok', ep_ok, ep_ok', dr_er, dp_ep, isRows_rows, isPcs_pcs, toRows_rows, toPcs_pcs, rows_take, rows_drop, pcs_take, pcs_drop, rows_append, pcs_append, ints_length, isInts_ints, toInts_ints, ei_i, ei_ok, mk_headD, ints_take, ints_drop, ints_append, ints_snoc, ints_snoc', List.take_length, Nat.zero_add, Nat.le_refl, er_a, er_b, er_k, er_n, er_s, er_v, ep_a, ep_b, ep_hk, ep_hn, ep_hs, ep_wk, ep_wn, ep_ws, e1, e2, nd_node, hl, hg, beqL]
  by_cases c1 : smallR 400 t = false
  · simp [c1]
  rw [Bool.not_eq_false] at c1
  by_cases c2 : (100 : Int) < p.length
  · simp [c1, c2]
  by_cases c3 : shortR l = false
  · simp [c1, c2, c3]
  rw [Bool.not_eq_false] at c3
  by_cases c4 : (100 : Int) < o.length
  · simp [c1, c2, c3, c4]
  simp only [c1, c2, c3, c4, Bool.true_eq_false, if_false]
  by_cases c5 : okR t = true ∧ isPath p = true ∧ right l = true
  · obtain ⟨h1, h2, h3⟩ := c5
    have hP : putP t p l = (putR t p l, 0) := by unfold putP; rw [if_pos ⟨h1, h2, h3⟩]
    obtain ⟨g1, g2⟩ := isPath_iff.1 h2
    have k1 := (putR_ok h1 g1 g2 h3).1
    have k2 := getR_put h1 h2 h3
    have hc : checkT (putR t p l) = 0 := by unfold checkT; rw [if_pos k1]
    rw [hP]
    simp only [k2, hc]
    by_cases c6 : o = p
    · simp [c6]
    · simp [c6]
  · have hP : putP t p l = (.node [] [] [], 2) := by unfold putP; rw [if_neg c5]
    rw [hP]; simp
end Go.Proofs.YtgaabjmbnomimaaDoor
namespace Go.Proofs.YtgaabjmbnomimaaDoor
open Go Go.Ev
set_option maxRecDepth 100000
theorem rdSl {t : TypeId} (ht : Tryd.prog.underlying t = some .string) {n : Nat} {xs : List C} (h : Rd Tryd.prog n t xs) : ∃ v : List UInt8, xs = [.str v] ∧ v.length ≤ maxLen := by
  cases n with
  | zero => exact h.elim
  | succ n =>
    simp only [Rd, ht] at h
    exact h
theorem rdT : ∀ (n : Nat) (xs : List C), (Rd Tryd.prog n 31 xs → ∃ t : Nd, xs = t.enc ∧ lensT t = true) ∧ (Rd Tryd.prog n 23 xs → ∃ ks : List Nd, xs = [.sl 3 none false (encL ks)] ∧ lensL ks = true ∧ ks.length ≤ maxLen)
  | 0, xs => ⟨fun h => h.elim, fun h => h.elim⟩
  | n + 1, xs => by
    refine ⟨fun h => ?_, fun h => ?_⟩
    · rw [Rd, Tryd.underlying31] at h
      obtain ⟨parts, hl, rfl, hp⟩ := h
      match parts, hl with
      | [p, q, r], _ =>
        obtain ⟨s, rfl, h1⟩ := rdSl Tryd.underlying9 (hp 0 _ p rfl rfl)
        obtain ⟨rs, rfl, h2⟩ := rdRows (hp 1 _ q rfl rfl)
        obtain ⟨ks, rfl, h3, h4⟩ := (rdT n r).2 (hp 2 _ r rfl rfl)
        refine ⟨.node s rs ks, by rw [Nd.enc]; rfl, ?_⟩
        have hm : maxLen ≤ 9223372036854775807 := by decide
        rw [lensT, h3]
        simp only [Bool.and_eq_true, decide_eq_true_eq]
        exact ⟨⟨⟨by omega, by omega⟩, by omega⟩, trivial⟩
    · rw [Rd, Tryd.underlying23] at h
      obtain ⟨ys, rfl, hq, hy⟩ := h
      have hz : Tryd.prog.cellsOf 31 = 3 := by kernel_rfl
      have : ∃ l : List Nd, ys = encL l ∧ lensL l = true := by
        clear hq
        induction ys with
        | nil => exact ⟨[], rfl, rfl⟩
        | cons y r ih =>
          obtain ⟨l, rfl, hl⟩ := ih (fun z hz => hy z (by simp [hz]))
          obtain ⟨t, rfl, ht⟩ := (rdT n y).1 (hy y (by simp))
          exact ⟨t :: l, by rw [encL], by rw [lensL, ht, hl]; rfl⟩
      obtain ⟨l, rfl, hl⟩ := this
      exact ⟨l, by rw [hz], hl, by simpa using hq⟩
/-- A tree that is an argument. -/
structure Lt where
  t : Nd
  ok : lensT t = true
theorem rd31 {n : Nat} {xs : List C} (h : Rd Tryd.prog n 31 xs) : ∃ x : Lt, xs = x.t.enc := by
  obtain ⟨t, h1, h2⟩ := (rdT n xs).1 h
  exact ⟨⟨t, h2⟩, h1⟩
theorem enc_VT (t : Nd) : V.agg (t.enc.map .c) = VT t := by rw [Nd.enc_eq]; rfl
theorem ar31 {v : V} {vl : List V} {ts : List TypeId} (h : Args Tryd.prog (31 :: ts) (v :: vl)) : (∃ x : Lt, v = VT x.t) ∧ Args Tryd.prog ts vl := by
  obtain ⟨⟨x, h1⟩, h2⟩ := arA (fun x : Lt => x.t.enc) (by kernel_rfl) rd31 h
  exact ⟨⟨x, by rw [h1, enc_VT]⟩, h2⟩
/-- Rows that are an argument. -/
structure Lr where
  l : List Row
  ok : l.length ≤ maxLen
theorem ar29 {v : V} {vl : List V} {ts : List TypeId} (h : Args Tryd.prog (29 :: ts) (v :: vl)) : (∃ x : Lr, v = .c (.sl 5 none false (rows x.l))) ∧ Args Tryd.prog ts vl :=
  arC (fun x : Lr => .sl 5 none false (rows x.l)) (by kernel_rfl) (fun h => by obtain ⟨l, h1, h2⟩ := rdRows h; exact ⟨⟨l, h2⟩, h1⟩) h
theorem l6 (t : Lt) (p : List UInt8) (l : Lr) (o : List UInt8) : call E 6 [VT t.t, .c (.str p), .c (.sl 5 none false (rows l.l)), .c (.str o)] [] = some ([V.b true], []) := f6 t.t p l.l o t.ok
end Go.Proofs.YtgaabjmbnomimaaDoor
