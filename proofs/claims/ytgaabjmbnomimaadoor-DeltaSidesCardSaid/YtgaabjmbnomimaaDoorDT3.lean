/-
  Chapter 11 (delta), trees, written by a program: Merge, Changes; Chapter 11 (delta): Merge, Changes; Chapter 11 (delta), trees, written by a program: what is small; DeltaSides; Chapter 11 (delta): what is small; lives; Chapter 11 (delta): the laws, but for their arguments' reading: DeltaSides; Chapter 11 (delta): the laws at arguments that read as trees.
-/
import Derived.Test.YtgaabjmbnomimaaDoorAR
set_option linter.all false
namespace Go.Proofs.YtgaabjmbnomimaaDoor
open Go Go.Ev
-- cse
set_option pp.deepTerms true
set_option pp.maxSteps 1000000
set_option pp.funBinderTypes true
set_option pp.coercions.types true
noncomputable abbrev p43 : Par := par E sh (ctOf [(93, s93), (94, s94), (95, s95), (25, s25)]) 43 3 0
abbrev s43_0 (nl7 : Option Bool) (t7 : Bool) (xs7 : List (List C)) (i8 : Int) (sh0 : List UInt8) (nlh0 : Option Bool) (th0 : Bool) (xsh0 : List (List C)) (nlh0_1 : Option Bool) (th0_1 : Bool) (xsh0_1 : List (List C)) (sh1 : List UInt8) (nlh1 : Option Bool) (th1 : Bool) (xsh1 : List (List C)) (nlh1_1 : Option Bool) (th1_1 : Bool) (xsh1_1 : List (List C)) (ys2_1 : List (List C)) (nh3 : Nat) (nlh4 : Option Bool) (th4 : Bool) (xsh4 : List (List C)) : Fr × Hp := ([(6, V.ptr 0 0 0 0), (7, V.c (C.sl 1 nl7 t7 xs7)), (8, V.c (C.int IntKind.i64 i8)), (9, V.ptr 1 0 0 0), (10, V.ptr 3 0 0 0), (25, V.fn 137 [V.ptr 4 0 0 0])], [O.box [V.c (C.str sh0), V.c (C.sl 5 nlh0 th0 xsh0), V.c (C.sl 3 nlh0_1 th0_1 xsh0_1)], O.box [V.c (C.str sh1), V.c (C.sl 5 nlh1 th1 xsh1), V.c (C.sl 3 nlh1_1 th1_1 xsh1_1)], O.mem 1 0 ys2_1, O.box [V.buf 2 0 0 nh3], O.box [V.c (C.sl 3 nlh4 th4 xsh4)]])
noncomputable abbrev b43_0 : Code := loopAt (codeOf E (43)) 0
abbrev g43_0 (nl7 : Option Bool) (t7 : Bool) (xs7 : List (List C)) (i8 : Int) (sh0 : List UInt8) (nlh0 : Option Bool) (th0 : Bool) (xsh0 : List (List C)) (nlh0_1 : Option Bool) (th0_1 : Bool) (xsh0_1 : List (List C)) (sh1 : List UInt8) (nlh1 : Option Bool) (th1 : Bool) (xsh1 : List (List C)) (nlh1_1 : Option Bool) (th1_1 : Bool) (xsh1_1 : List (List C)) (ys2_1 : List (List C)) (nh3 : Nat) : Fr × Hp := ([(6, V.ptr 0 0 0 0), (7, V.c (C.sl 1 nl7 t7 xs7)), (8, V.c (C.int IntKind.i64 i8)), (9, V.ptr 1 0 0 0), (10, V.ptr 3 0 0 0), (25, V.fn 137 [V.ptr 4 0 0 0])], [O.box [V.c (C.str sh0), V.c (C.sl 5 nlh0 th0 xsh0), V.c (C.sl 3 nlh0_1 th0_1 xsh0_1)], O.box [V.c (C.str sh1), V.c (C.sl 5 nlh1 th1 xsh1), V.c (C.sl 3 nlh1_1 th1_1 xsh1_1)], O.mem 1 0 ys2_1, O.box [V.buf 2 0 0 nh3], O.gone])
abbrev x43_0n (nl7 : Option Bool) (t7 : Bool) (xs7 : List (List C)) (i8 : Int) (sh0 : List UInt8) (nlh0 : Option Bool) (th0 : Bool) (xsh0 : List (List C)) (nlh0_1 : Option Bool) (th0_1 : Bool) (xsh0_1 : List (List C)) (sh1 : List UInt8) (nlh1 : Option Bool) (th1 : Bool) (xsh1 : List (List C)) (nlh1_1 : Option Bool) (th1_1 : Bool) (xsh1_1 : List (List C)) (ys2_1 : List (List C)) (nh3 : Nat) : Ex × Fr × Hp := (Ex.nrm, [(6, V.ptr 0 0 0 0), (7, V.c (C.sl 1 nl7 t7 xs7)), (8, V.c (C.int IntKind.i64 i8)), (9, V.ptr 1 0 0 0), (10, V.ptr 3 0 0 0), (25, V.fn 137 [V.ptr 4 0 0 0])], [O.box [V.c (C.str sh0), V.c (C.sl 5 nlh0 th0 xsh0), V.c (C.sl 3 nlh0_1 th0_1 xsh0_1)], O.box [V.c (C.str sh1), V.c (C.sl 5 nlh1 th1 xsh1), V.c (C.sl 3 nlh1_1 th1_1 xsh1_1)], O.mem 1 0 ys2_1, O.box [V.buf 2 0 0 nh3], O.gone])
theorem t43_0 (nl7 : Option Bool) (t7 : Bool) (xs7 : List (List C)) (i8 : Int) (sh0 : List UInt8) (nlh0 : Option Bool) (th0 : Bool) (xsh0 : List (List C)) (nlh0_1 : Option Bool) (th0_1 : Bool) (xsh0_1 : List (List C)) (sh1 : List UInt8) (nlh1 : Option Bool) (th1 : Bool) (xsh1 : List (List C)) (nlh1_1 : Option Bool) (th1_1 : Bool) (xsh1_1 : List (List C)) (ys2_1 : List (List C)) (nh3 : Nat) (p : List UInt8) (n0 : Option Bool) (t0 : Bool) (z0 : List (List C)) (n1 : Option Bool) (t1 : Bool) (z1 : List (List C)) (n2 : Option Bool) (t2 : Bool) (z2 : List (List C)) : p43.rts b43_0 ([V.agg [V.c (C.str p), V.c (C.sl 5 n0 t0 z0), V.c (C.sl 5 n1 t1 z1), V.c (C.sl 5 n2 t2 z2)]]) (g43_0 nl7 t7 xs7 i8 sh0 nlh0 th0 xsh0 nlh0_1 th0_1 xsh0_1 sh1 nlh1 th1 xsh1 nlh1_1 th1_1 xsh1_1 ys2_1 nh3) = (Tr.chk (isRows z0) (Tr.chk (isRows z1) (Tr.chk (isRows z2) (Tr.chk (decide (z0.length ≤ 9223372036854775807)) (Tr.chk (decide (z1.length ≤ 9223372036854775807)) (Tr.br (!!bad3 (toRows z0) (toRows z1) (toRows z2)) (Tr.chk true (Tr.chk true (Tr.chk (decide (nh3 + 1 < 4294967296)) (Tr.chk true (Tr.leaf (R.s (g43_0 nl7 t7 xs7 i8 sh0 nlh0 th0 xsh0 nlh0_1 th0_1 xsh0_1 sh1 nlh1 th1 xsh1 nlh1_1 th1_1 xsh1_1 (List.take nh3 ys2_1 ++ [[C.str p]]) (nh3 + 1)))))))) (Tr.chk (isRows xsh1) (Tr.chk (isL xsh1_1) (Tr.chk (isRows (rows (metR (toRows z0) (toRows z1) (toRows z2)))) (Tr.chk true (Tr.leaf (R.s (g43_0 nl7 t7 xs7 i8 sh0 nlh0 th0 xsh0 nlh0_1 th0_1 xsh0_1 ((putP (Nd.node sh1 (toRows xsh1) (decL xsh1_1)) p (toRows (rows (metR (toRows z0) (toRows z1) (toRows z2))))).fst.lab) (none) false (rows (putP (Nd.node sh1 (toRows xsh1) (decL xsh1_1)) p (toRows (rows (metR (toRows z0) (toRows z1) (toRows z2))))).fst.rows) (none) false (encL (putP (Nd.node sh1 (toRows xsh1) (decL xsh1_1)) p (toRows (rows (metR (toRows z0) (toRows z1) (toRows z2))))).fst.kids) ys2_1 nh3))))))))))))) := by kernel_rfl
theorem k43_0n (nl7 : Option Bool) (t7 : Bool) (xs7 : List (List C)) (i8 : Int) (sh0 : List UInt8) (nlh0 : Option Bool) (th0 : Bool) (xsh0 : List (List C)) (nlh0_1 : Option Bool) (th0_1 : Bool) (xsh0_1 : List (List C)) (sh1 : List UInt8) (nlh1 : Option Bool) (th1 : Bool) (xsh1 : List (List C)) (nlh1_1 : Option Bool) (th1_1 : Bool) (xsh1_1 : List (List C)) (ys2_1 : List (List C)) (nh3 : Nat) : p43.fkx 0 (x43_0n nl7 t7 xs7 i8 sh0 nlh0 th0 xsh0 nlh0_1 th0_1 xsh0_1 sh1 nlh1 th1 xsh1 nlh1_1 th1_1 xsh1_1 ys2_1 nh3) = (Tr.chk true (Tr.br (decide (0 < (↑nh3 : Int))) (Tr.leaf (R.out [V.agg [V.c (C.str []), V.c (C.sl 5 none false []), V.c (C.sl 3 none false [])], V.c (C.sl 1 none false (List.take nh3 ys2_1)), V.c (C.int IntKind.i64 19)] [])) (Tr.leaf (R.out [V.agg [V.c (C.str sh1), V.c (C.sl 5 none false xsh1), V.c (C.sl 3 none false xsh1_1)], V.c (C.sl 1 none false []), V.c (C.int IntKind.i64 0)] [])))) := by kernel_rfl
theorem t43 (s : List UInt8) (rn : Option Bool) (rt : Bool) (xs : List (List C)) (kn : Option Bool) (kt : Bool) (ys : List (List C)) (s2 : List UInt8) (rn2 : Option Bool) (rt2 : Bool) (xs2 : List (List C)) (kn2 : Option Bool) (kt2 : Bool) (ys2 : List (List C)) (s3 : List UInt8) (rn3 : Option Bool) (rt3 : Bool) (xs3 : List (List C)) (kn3 : Option Bool) (kt3 : Bool) (ys3 : List (List C)) : p43.ft ([V.agg [V.c (C.str s), V.c (C.sl 5 rn rt xs), V.c (C.sl 3 kn kt ys)], V.agg [V.c (C.str s2), V.c (C.sl 5 rn2 rt2 xs2), V.c (C.sl 3 kn2 kt2 ys2)], V.agg [V.c (C.str s3), V.c (C.sl 5 rn3 rt3 xs3), V.c (C.sl 3 kn3 kt3 ys3)]]) ([]) = (Tr.chk (isL [[C.str s, C.sl 5 rn rt xs, C.sl 3 kn kt ys], [C.str s2, C.sl 5 rn2 rt2 xs2, C.sl 3 kn2 kt2 ys2], [C.str s3, C.sl 5 rn3 rt3 xs3, C.sl 3 kn3 kt3 ys3]]) (Tr.chk true (Tr.br (!(decL [[C.str s, C.sl 5 rn rt xs, C.sl 3 kn kt ys], [C.str s2, C.sl 5 rn2 rt2 xs2, C.sl 3 kn2 kt2 ys2], [C.str s3, C.sl 5 rn3 rt3 xs3, C.sl 3 kn3 kt3 ys3]]).all okR) (Tr.leaf (R.out [V.agg [V.c (C.str []), V.c (C.sl 5 none false []), V.c (C.sl 3 none false [])], V.c (C.sl 1 none false []), V.c (C.int IntKind.i64 2)] [])) (Tr.rs 0 (s43_0 (some true) true ([]) (0) ([]) (some true) true ([]) (some true) true ([]) ([]) (some true) true ([]) (some true) true ([]) ([]) (0) (some false) true ([[C.str s, C.sl 5 rn rt xs, C.sl 3 kn kt ys], [C.str s2, C.sl 5 rn2 rt2 xs2, C.sl 3 kn2 kt2 ys2], [C.str s3, C.sl 5 rn3 rt3 xs3, C.sl 3 kn3 kt3 ys3]])))))) := by kernel_rfl
noncomputable abbrev p46 : Par := par E sh (ctOf [(93, s93), (94, s94), (98, s98)]) 46 2 0
abbrev s46_0 (nl4 : Option Bool) (t4 : Bool) (xs4 : List (List C)) (ys0 : List (List C)) (nh1 : Nat) (nlh2 : Option Bool) (th2 : Bool) (xsh2 : List (List C)) : Fr × Hp := ([(4, V.c (C.sl 3 nl4 t4 xs4)), (5, V.ptr 1 0 0 0), (17, V.fn 137 [V.ptr 2 0 0 0])], [O.mem 3 0 ys0, O.box [V.buf 0 0 0 nh1], O.box [V.c (C.sl 3 nlh2 th2 xsh2)]])
noncomputable abbrev b46_0 : Code := loopAt (codeOf E (46)) 0
abbrev g46_0 (nl4 : Option Bool) (t4 : Bool) (xs4 : List (List C)) (ys0 : List (List C)) (nh1 : Nat) : Fr × Hp := ([(4, V.c (C.sl 3 nl4 t4 xs4)), (5, V.ptr 1 0 0 0), (17, V.fn 137 [V.ptr 2 0 0 0])], [O.mem 3 0 ys0, O.box [V.buf 0 0 0 nh1], O.gone])
abbrev x46_0n (nl4 : Option Bool) (t4 : Bool) (xs4 : List (List C)) (ys0 : List (List C)) (nh1 : Nat) : Ex × Fr × Hp := (Ex.nrm, [(4, V.c (C.sl 3 nl4 t4 xs4)), (5, V.ptr 1 0 0 0), (17, V.fn 137 [V.ptr 2 0 0 0])], [O.mem 3 0 ys0, O.box [V.buf 0 0 0 nh1], O.gone])
theorem t46_0 (nl4 : Option Bool) (t4 : Bool) (xs4 : List (List C)) (ys0 : List (List C)) (nh1 : Nat) (p : List UInt8) (n0 : Option Bool) (t0 : Bool) (z0 : List (List C)) (n1 : Option Bool) (t1 : Bool) (z1 : List (List C)) (n2 : Option Bool) (t2 : Bool) (z2 : List (List C)) : p46.rts b46_0 ([V.agg [V.c (C.str p), V.c (C.sl 5 n0 t0 z0), V.c (C.sl 5 n1 t1 z1), V.c (C.sl 5 n2 t2 z2)]]) (g46_0 nl4 t4 xs4 ys0 nh1) = (Tr.chk true (Tr.chk true (Tr.chk true (Tr.chk true (Tr.chk (isRows z0) (Tr.chk (isRows z1) (Tr.chk (decide (z0.length ≤ 9223372036854775807)) (Tr.br (!decide (toRows z0 = toRows z1)) (Tr.chk true (Tr.chk true (Tr.chk (decide (nh1 + 1 < 4294967296)) (Tr.chk true (Tr.leaf (R.s (g46_0 nl4 t4 xs4 (List.take nh1 ys0 ++ [[C.str p, C.sl 5 n0 t0 z0, C.sl 5 n1 t1 z1]]) (nh1 + 1)))))))) (Tr.leaf (R.s (g46_0 nl4 t4 xs4 ys0 nh1))))))))))) := by kernel_rfl
theorem k46_0n (nl4 : Option Bool) (t4 : Bool) (xs4 : List (List C)) (ys0 : List (List C)) (nh1 : Nat) : p46.fkx 0 (x46_0n nl4 t4 xs4 ys0 nh1) = (Tr.leaf (R.out [V.c (C.sl 3 none false (List.take nh1 ys0))] [])) := by kernel_rfl
theorem t46 (s : List UInt8) (rn : Option Bool) (rt : Bool) (xs : List (List C)) (kn : Option Bool) (kt : Bool) (ys : List (List C)) (s2 : List UInt8) (rn2 : Option Bool) (rt2 : Bool) (xs2 : List (List C)) (kn2 : Option Bool) (kt2 : Bool) (ys2 : List (List C)) : p46.ft ([V.agg [V.c (C.str s), V.c (C.sl 5 rn rt xs), V.c (C.sl 3 kn kt ys)], V.agg [V.c (C.str s2), V.c (C.sl 5 rn2 rt2 xs2), V.c (C.sl 3 kn2 kt2 ys2)]]) ([]) = (Tr.chk (isL [[C.str s, C.sl 5 rn rt xs, C.sl 3 kn kt ys], [C.str s2, C.sl 5 rn2 rt2 xs2, C.sl 3 kn2 kt2 ys2]]) (Tr.chk true (Tr.br (!(decL [[C.str s, C.sl 5 rn rt xs, C.sl 3 kn kt ys], [C.str s2, C.sl 5 rn2 rt2 xs2, C.sl 3 kn2 kt2 ys2]]).all okR) (Tr.leaf (R.out [V.c (C.sl 3 none false [])] [])) (Tr.rs 0 (s46_0 (some true) true ([]) ([]) (0) (some false) true ([[C.str s, C.sl 5 rn rt xs, C.sl 3 kn kt ys], [C.str s2, C.sl 5 rn2 rt2 xs2, C.sl 3 kn2 kt2 ys2]])))))) := by kernel_rfl
end Go.Proofs.YtgaabjmbnomimaaDoor
namespace Go.Proofs.YtgaabjmbnomimaaDoor
open Go Go.Ev
theorem sidesF_len : ∀ (f : Nat) (x y z : List Ent), (sidesF f x y z).length ≤ f
  | 0, _, _, _ => Nat.le_refl _
  | f + 1, x, y, z => by
    by_cases h : leastP (leastP (leastP [] x) y) z = []
    · rw [sidesF_end f h]; exact Nat.zero_le _
    · rw [sidesF_step f rfl h, List.length_cons]; exact Nat.succ_le_succ (sidesF_len f _ _ _)
theorem encS_eq (s : Sd) : encS s = [V.agg [V.c (C.str s.p), V.c (C.sl 5 (rcN s.a) (rcT s.a) (rows s.a)), V.c (C.sl 5 (rcN s.b) (rcT s.b) (rows s.b)), V.c (C.sl 5 (rcN s.c) (rcT s.c) (rows s.c))]] := by
  rw [encS, VS, rowsV_eq, rowsV_eq, rowsV_eq]
def strs (l : List (List UInt8)) : List (List C) := l.map fun p => [C.str p]
theorem strs_length (l : List (List UInt8)) : (strs l).length = l.length := List.length_map _
theorem strs_take (l : List (List UInt8)) : (strs l).take l.length = strs l := by rw [← strs_length l, List.take_length]
theorem strs_snoc (l : List (List UInt8)) (p : List UInt8) : strs l ++ [[C.str p]] = strs (l ++ [p]) := by simp [strs]
def mergeP (a b c : Nd) : Nd × List (List UInt8) × Int := if okR a = true ∧ okR b = true ∧ okR c = true then (if badT a b c = [] then (mergeT a b c, [], 0) else (nd0, badT a b c, 19)) else (nd0, [], 2)
theorem right_len63 {l : List Row} (h : right l = true) : l.length ≤ 9223372036854775807 := by have := right_len4 h; omega
theorem entP_len (t : Nd) (h : (entL t.kids).length < 1000000000) : (entP t).length < 1000000000 := by
  rw [entP]; cases okR t
  · simp
  · exact h
structure InvM (a b c : Nd) (l : List Sd) (t : Nd) (bad : List (List UInt8)) : Prop where
  ok : okR t = true
  tree : putsF gM t l = mergeT a b c
  bads : bad ++ badL l = badT a b c
  sub : ∀ s ∈ l, s ∈ S3 a b c
theorem badT_len (a b c : Nd) (ha : (entL a.kids).length < 1000000000) (hb : (entL b.kids).length < 1000000000) (hc : (entL c.kids).length < 1000000000) : (badT a b c).length < 4294967295 := by
  have h1 : (badT a b c).length ≤ (S3 a b c).length := by unfold badT badL; rw [List.length_map]; exact List.length_filter_le _ _
  have h2 : (S3 a b c).length ≤ (entP a).length + (entP b).length + (entP c).length + 1 := sidesF_len _ _ _ _
  have := entP_len a ha; have := entP_len b hb; have := entP_len c hc
  omega
theorem f43 (a b c : Nd) (ha : (entL a.kids).length < 1000000000) (hb : (entL b.kids).length < 1000000000) (hc : (entL c.kids).length < 1000000000) :
    call E 43 [VT a, VT b, VT c] [] = some ([VT (mergeP a b c).1, .c (.sl 1 none false (strs (mergeP a b c).2.1)), V.i (mergeP a b c).2.2], []) := by
  have hct : (ctOf [(93, s93), (94, s94), (95, s95), (25, s25)]).ok E := ctOf_cons s93_ok (ctOf_cons s94_ok (ctOf_cons s95_ok (ctOf_cons s25_ok ctOf_nil)))
  refine call_of (E := E) (sh := sh) (ct := ctOf [(93, s93), (94, s94), (95, s95), (25, s25)]) (na := 3) (m := 0) hct rfl rfl rfl rfl rfl rfl ?_
  show p43.fd (p43.ft [VT a, VT b, VT c] []) = some (.out _ _)
  rw [show p43.ft [VT a, VT b, VT c] [] = _ from t43 _ _ _ _ _ _ _ _ _ _ _ _ _ _ _ _ _ _ _ _ _]
  have hL : ([[C.str a.lab, C.sl 5 none false (rows a.rows), C.sl 3 none false (encL a.kids)], [C.str b.lab, C.sl 5 none false (rows b.rows), C.sl 3 none false (encL b.kids)], [C.str c.lab, C.sl 5 none false (rows c.rows), C.sl 3 none false (encL c.kids)]] : List (List C)) = encL [a, b, c] := by
    simp only [encL, Nd.enc_eq]
  rw [hL]
  simp only [nd_ok, nd_lab, nd_rows, nd_kids, encL_length, isL_enc, decL_enc, wrap_hd, hd_pos, ld_br, ld_chk', ld_leaf, fd_br, fd_chk', fd_leaf, decide_true, decide_eq_true_eq, if_true, Int.toNat_natCast, Int.natCast_nonneg, Int.ofNat_lt, Int.ofNat_le, Bool.false_eq_true, if_false, bne_iff_ne, beq_iff_eq, ne_eq, not_true_eq_false, not_false_eq_true, Bool.not_eq_true', decide_eq_false_iff_not, reduceCtorEq, rows_length, pcs_length, er_ok, er_ok', ep_ok, ep_ok', dr_er, dp_ep, isRows_rows, isPcs_pcs, toRows_rows, toPcs_pcs, rows_take, rows_drop, pcs_take, pcs_drop, rows_append, pcs_append, ints_length, isInts_ints, toInts_ints, ei_i, ei_ok, mk_headD, ints_take, ints_drop, ints_append, ints_snoc, ints_snoc', List.take_length, Nat.zero_add, Nat.le_refl, er_a, er_b, er_k, er_n, er_s, er_v, ep_a, ep_b, ep_hk, ep_hn, ep_hs, ep_wk, ep_wn, ep_ws, List.all_cons, List.all_nil, Bool.and_true]
  have hand : (okR a && (okR b && okR c)) = decide (okR a = true ∧ okR b = true ∧ okR c = true) := by
    cases okR a <;> cases okR b <;> cases okR c <;> rfl
  by_cases hok : okR a = true ∧ okR b = true ∧ okR c = true
  · rw [hand, decide_eq_true hok]
    rw [if_neg (by simp)]
    have hs := spT a b c
    have hlen := badT_len a b c ha hb hc
    refine fd_rpost hct (by kernel_rfl) rfl (ranges_post (p := p43) hct (c := b43_0) (gi := 137) (caps := [.ptr 4 0 0 0]) (args := [.yl 1, .ptr 0 0 0 0])
      (h0 := [.box [.c (.sl 3 (some false) true (encL [a, b, c]))]]) (ids := [4]) (by kernel_rfl) (S3 a b c) encS rfl (by kernel_rfl)
      (sq137_3 (some false) true a b c)
      (fun u b' hw => ⟨_, _, f137_3 (some false) true a b c ha hb hc u b' hw, rfl⟩)
      (fun (s : (Nd × Option Bool × Bool × Option Bool × Bool) × List (List UInt8)) => g43_0 (some true) true [] 0 [] (some true) true [] (some true) true [] s.1.1.lab s.1.2.1 s.1.2.2.1 (rows s.1.1.rows) s.1.2.2.2.1 s.1.2.2.2.2 (encL s.1.1.kids) (strs s.2) s.2.length)
      (fun l s => InvM a b c l s.1.1 s.2) _ ?_ ?_ ((nd0, some true, true, some true, true), []) rfl ⟨nd0_ok, rfl, rfl, fun s h => h⟩)
    · rintro s l ⟨⟨t, rn, rt, kn, kt⟩, bad⟩ ⟨h1, h2, h3, h4⟩
      dsimp only at h1 h2 h3 h4 ⊢
      left
      have hsm := h4 s (by simp)
      have hra : right s.a = true := by rw [hs.a s hsm]; exact look_right (gd_entP a) _
      have hrb : right s.b = true := by rw [hs.b s hsm]; exact look_right (gd_entP b) _
      have hrc : right s.c = true := by rw [hs.c s hsm]; exact look_right (gd_entP c) _
      have la := right_len63 hra
      have lb := right_len63 hrb
      obtain ⟨pn, pl⟩ := hs.path (gd_entP a) (gd_entP b) (gd_entP c) hsm
      have hrm : right (metR s.a s.b s.c) = true := by
        unfold metR met3
        split
        · rfl
        · split
          · exact hrb
          · exact hrc
      have hput : putP t s.p (metR s.a s.b s.c) = (putR t s.p (metR s.a s.b s.c), 0) := by
        rw [putP, if_pos ⟨h1, isPath_iff.2 ⟨pn, pl⟩, hrm⟩]
      have hbl : bad.length + 1 ≤ 4294967295 ∨ badS s = false := by
        cases hb : badS s with
        | false => exact .inr rfl
        | true =>
          left
          have := congrArg List.length h3
          rw [show badL (s :: l) = s.p :: badL l by simp [badL, hb]] at this
          simp only [List.length_append, List.length_cons] at this; omega
      rw [encS_eq]
      cases hbd : badS s with
      | true =>
        have hbl2 : bad.length + 1 < 4294967296 := by
          rcases hbl with h | h
          · omega
          · rw [hbd] at h; cases h
        refine ⟨((t, rn, rt, kn, kt), bad ++ [s.p]), ⟨h1, ?_, ?_, fun u hu => h4 u (by simp [hu])⟩, ?_⟩
        · rw [← h2, putsF]; simp only [gM, hbd, if_true]
        · rw [← h3, show badL (s :: l) = s.p :: badL l by simp [badL, hbd]]; simp
        · refine (congrArg _ (t43_0 (some true) true [] 0 [] (some true) true [] (some true) true [] t.lab rn rt (rows t.rows) kn kt (encL t.kids) (strs bad) bad.length s.p _ _ (rows s.a) _ _ (rows s.b) _ _ (rows s.c))).trans ?_
          have hbd' : bad3 s.a s.b s.c = true := hbd
          simp only [rd_br, rd_chk', rd_leaf, if_true, isRows_rows, toRows_rows, rows_length, la, lb, hbd', hbl2, decide_true, Bool.not_true, Bool.not_false, strs_take, strs_snoc, List.length_append, List.length_singleton]
      | false =>
        refine ⟨((putR t s.p (metR s.a s.b s.c), none, false, none, false), bad), ⟨?_, ?_, ?_, fun u hu => h4 u (by simp [hu])⟩, ?_⟩
        · exact (putR_ok h1 pn pl hrm).1
        · have hbd' : bad3 s.a s.b s.c = false := hbd
          rw [← h2, putsF]; simp only [gM, hbd, metS, metR, hbd', Bool.false_eq_true, if_false]
        · rw [← h3, show badL (s :: l) = badL l by simp [badL, hbd]]
        · refine (congrArg _ (t43_0 (some true) true [] 0 [] (some true) true [] (some true) true [] t.lab rn rt (rows t.rows) kn kt (encL t.kids) (strs bad) bad.length s.p _ _ (rows s.a) _ _ (rows s.b) _ _ (rows s.c))).trans ?_
          have hbd' : bad3 s.a s.b s.c = false := hbd
          simp only [rd_br, rd_chk', rd_leaf, if_true, isRows_rows, isL_enc, decL_enc, toRows_rows, rows_length, la, lb, hbd', Bool.not_true, Bool.not_false, Bool.false_eq_true, if_false, decide_true, Nd.eta, hput]
    · rintro ⟨⟨t, rn, rt, kn, kt⟩, bad⟩ ⟨h1, h2, h3, h4⟩
      dsimp only at h1 h2 h3 h4
      have h2' : t = mergeT a b c := h2
      have h3' : bad = badT a b c := by rw [← h3]; simp [badL]
      subst h2' h3'
      refine (congrArg _ (k43_0n (some true) true [] 0 [] (some true) true [] (some true) true [] _ rn rt _ kn kt _ _ _)).trans ?_
      simp only [fd_chk', fd_br, fd_leaf, if_true, strs_take, mergeP, if_pos hok, decide_eq_true_eq]
      by_cases hb0 : badT a b c = []
      · rw [hb0]; rfl
      · have : (0 : Int) < ((badT a b c).length : Nat) := by have := List.length_pos_iff.2 hb0; omega
        rw [if_pos this, if_neg hb0]; rfl
  · rw [hand, decide_eq_false hok]
    rw [if_pos (by simp), mergeP, if_neg hok]
    rfl
def chgC (s : Sd) : List C := [C.str s.p, C.sl 5 (rcN s.a) (rcT s.a) (rows s.a), C.sl 5 (rcN s.b) (rcT s.b) (rows s.b)]
def chgs (X : List Sd) : List (List C) := X.map chgC
theorem chgs_length (X : List Sd) : (chgs X).length = X.length := List.length_map _
theorem chgs_take (X : List Sd) : (chgs X).take X.length = chgs X := by rw [← chgs_length X, List.take_length]
theorem chgs_snoc (X : List Sd) (s : Sd) : chgs X ++ [[C.str s.p, C.sl 5 (rcN s.a) (rcT s.a) (rows s.a), C.sl 5 (rcN s.b) (rcT s.b) (rows s.b)]] = chgs (X ++ [s]) := by simp [chgs, chgC]
def chgP (a b : Nd) : List Sd := if okR a = true ∧ okR b = true then chgT a b else []
theorem f46 (a b : Nd) (ha : (entL a.kids).length < 1000000000) (hb : (entL b.kids).length < 1000000000) :
    call E 46 [VT a, VT b] [] = some ([.c (.sl 3 none false (chgs (chgP a b)))], []) := by
  have hct : (ctOf [(93, s93), (94, s94), (98, s98)]).ok E := ctOf_cons s93_ok (ctOf_cons s94_ok (ctOf_cons s98_ok ctOf_nil))
  refine call_of (E := E) (sh := sh) (ct := ctOf [(93, s93), (94, s94), (98, s98)]) (na := 2) (m := 0) hct rfl rfl rfl rfl rfl rfl ?_
  show p46.fd (p46.ft [VT a, VT b] []) = some (.out _ _)
  rw [show p46.ft [VT a, VT b] [] = _ from t46 _ _ _ _ _ _ _ _ _ _ _ _ _ _]
  have hL : ([[C.str a.lab, C.sl 5 none false (rows a.rows), C.sl 3 none false (encL a.kids)], [C.str b.lab, C.sl 5 none false (rows b.rows), C.sl 3 none false (encL b.kids)]] : List (List C)) = encL [a, b] := by
    simp only [encL, Nd.enc_eq]
  rw [hL]
  simp only [nd_ok, nd_lab, nd_rows, nd_kids, encL_length, isL_enc, decL_enc, wrap_hd, hd_pos, ld_br, ld_chk', ld_leaf, fd_br, fd_chk', fd_leaf, decide_true, decide_eq_true_eq, if_true, Int.toNat_natCast, Int.natCast_nonneg, Int.ofNat_lt, Int.ofNat_le, Bool.false_eq_true, if_false, bne_iff_ne, beq_iff_eq, ne_eq, not_true_eq_false, not_false_eq_true, Bool.not_eq_true', decide_eq_false_iff_not, reduceCtorEq, rows_length, pcs_length, er_ok, er_ok', ep_ok, ep_ok', dr_er, dp_ep, isRows_rows, isPcs_pcs, toRows_rows, toPcs_pcs, rows_take, rows_drop, pcs_take, pcs_drop, rows_append, pcs_append, ints_length, isInts_ints, toInts_ints, ei_i, ei_ok, mk_headD, ints_take, ints_drop, ints_append, ints_snoc, ints_snoc', List.take_length, Nat.zero_add, Nat.le_refl, er_a, er_b, er_k, er_n, er_s, er_v, ep_a, ep_b, ep_hk, ep_hn, ep_hs, ep_wk, ep_wn, ep_ws, List.all_cons, List.all_nil, Bool.and_true]
  have hand : (okR a && okR b) = decide (okR a = true ∧ okR b = true) := by
    cases okR a <;> cases okR b <;> rfl
  by_cases hok : okR a = true ∧ okR b = true
  · rw [hand, decide_eq_true hok]
    rw [if_neg (by simp)]
    have hs := spC a b
    have hlen : (chgT a b).length < 4294967295 := by
      have h1 : (chgT a b).length ≤ (S2 a b).length := List.length_filter_le _ _
      have h2 : (S2 a b).length ≤ (entP a).length + (entP b).length + 0 + 1 := sidesF_len _ _ _ _
      have := entP_len a ha; have := entP_len b hb
      omega
    refine fd_rpost hct (by kernel_rfl) rfl (ranges_post (p := p46) hct (c := b46_0) (gi := 137) (caps := [.ptr 2 0 0 0]) (args := [.yl 1, .ptr 0 0 0 0])
      (h0 := [.box [.c (.sl 3 (some false) true (encL [a, b]))]]) (ids := [2]) (by kernel_rfl) (S2 a b) encS rfl (by kernel_rfl)
      (sq137_2 (some false) true a b)
      (fun u b' hw => ⟨_, _, f137_2 (some false) true a b ha hb u b' hw, rfl⟩)
      (fun (acc : List Sd) => g46_0 (some true) true [] (chgs acc) acc.length)
      (fun l acc => acc ++ l.filter (fun s => decide (s.a ≠ s.b)) = chgT a b ∧ ∀ s ∈ l, s ∈ S2 a b) _ ?_ ?_ [] rfl ⟨rfl, fun s h => h⟩)
    · rintro s l acc ⟨h1, h2⟩
      left
      have hsm := h2 s (by simp)
      have hra : right s.a = true := by rw [hs.a s hsm]; exact look_right (gd_entP a) _
      have la := right_len63 hra
      rw [encS_eq]
      by_cases hd : s.a = s.b
      · refine ⟨acc, ⟨?_, fun u hu => h2 u (by simp [hu])⟩, ?_⟩
        · rw [← h1]; simp [hd]
        · refine (congrArg _ (t46_0 (some true) true [] (chgs acc) acc.length s.p _ _ (rows s.a) _ _ (rows s.b) _ _ (rows s.c))).trans ?_
          have hd' : decide (s.a = s.b) = true := decide_eq_true hd
          simp only [rd_br, rd_chk', rd_leaf, if_true, isRows_rows, toRows_rows, rows_length, la, hd', decide_true, Bool.not_true, Bool.false_eq_true, if_false]
      · have hl1 : acc.length + 1 < 4294967296 := by
          have := congrArg List.length h1
          rw [List.filter_cons_of_pos (by simpa using hd)] at this
          simp only [List.length_append, List.length_cons] at this; omega
        refine ⟨acc ++ [s], ⟨?_, fun u hu => h2 u (by simp [hu])⟩, ?_⟩
        · rw [← h1, List.filter_cons_of_pos (by simpa using hd)]; simp
        · refine (congrArg _ (t46_0 (some true) true [] (chgs acc) acc.length s.p _ _ (rows s.a) _ _ (rows s.b) _ _ (rows s.c))).trans ?_
          have hd' : decide (s.a = s.b) = false := decide_eq_false hd
          simp only [rd_br, rd_chk', rd_leaf, if_true, isRows_rows, toRows_rows, rows_length, la, hd', hl1, decide_true, Bool.not_false, chgs_take, chgs_snoc, List.length_append, List.length_singleton]
    · rintro acc ⟨h1, _⟩
      rw [List.filter_nil, List.append_nil] at h1
      subst h1
      refine (congrArg _ (k46_0n (some true) true [] _ _)).trans ?_
      rw [fd_leaf, chgs_take, chgP, if_pos hok]
  · rw [hand, decide_eq_false hok]
    rw [if_pos (by simp), chgP, if_neg hok]
    rfl
end Go.Proofs.YtgaabjmbnomimaaDoor
namespace Go.Proofs.YtgaabjmbnomimaaDoor
open Go Go.Ev
-- cse
set_option pp.deepTerms true
set_option pp.maxSteps 1000000
set_option pp.funBinderTypes true
set_option pp.coercions.types true
noncomputable abbrev p135 : Par := par E sh (ctOf []) 135 1 0
abbrev s135_0 (nl : Option Bool) (tt : Bool) (xs : List (List C)) (i3 : Int) : Fr × Hp := ([(0, V.c (C.sl 5 nl tt xs)), (3, V.c (C.int IntKind.i64 i3))], [])
noncomputable abbrev b135_0 : Code := loopAt (codeOf E (135)) 0
abbrev x135_0x0 : Ex × Fr × Hp := (Ex.ret, [(2, V.c (C.bool false))], [])
abbrev x135_0x1 (nl : Option Bool) (tt : Bool) (xs : List (List C)) (i3 : Int) : Ex × Fr × Hp := (Ex.exit 0, [(0, V.c (C.sl 5 nl tt xs)), (3, V.c (C.int IntKind.i64 i3)), (10, V.c (C.bool false))], [])
theorem t135_0 (nl : Option Bool) (tt : Bool) (xs : List (List C)) (i3 : Int) : p135.lts b135_0 (s135_0 nl tt xs i3) = (Tr.br (decide (i3 < (↑xs.length : Int))) (Tr.chk (decide (0 ≤ i3)) (Tr.chk true (Tr.chk (decide (i3.toNat < xs.length)) (Tr.chk (shOk [Sk.int IntKind.i64, Sk.int IntKind.i64, Sk.int IntKind.i64, Sk.int IntKind.i64, Sk.str] (xs.getD i3.toNat [])) (Tr.br (decide (100 < (↑((xs.getD i3.toNat []).tail.tail.tail.tail.headD C.pnil).st.length : Int))) (Tr.leaf (R.x x135_0x0)) (Tr.leaf (R.s (s135_0 nl tt xs (IntKind.i64.wrap (i3 + 1)))))))))) (Tr.leaf (R.x (x135_0x1 nl tt xs i3)))) := by kernel_rfl
theorem k135_0x0 : p135.fkx 0 x135_0x0 = (Tr.leaf (R.out [V.c (C.bool false)] [])) := by kernel_rfl
theorem k135_0x1 (nl : Option Bool) (tt : Bool) (xs : List (List C)) (i3 : Int) : p135.fkx 0 (x135_0x1 nl tt xs i3) = (Tr.leaf (R.out [V.c (C.bool true)] [])) := by kernel_rfl
theorem t135 (nl : Option Bool) (tt : Bool) (xs : List (List C)) : p135.ft ([V.c (C.sl 5 nl tt xs)]) ([]) = (Tr.br (decide (70 < (↑xs.length : Int))) (Tr.leaf (R.out [V.c (C.bool false)] [])) (Tr.ls 0 (s135_0 nl tt xs (0)))) := by kernel_rfl
def s135 : CSpec := fun a h => match a, h with
  | [.c (.sl 5 nl tt xs)], [] => some ([isRows xs], [V.b (shortR (toRows xs))], [])
  | _, _ => none
variable (dd : Nat)
def s90 : CSpec := fun a h => match a, h with
  | [.agg [.c (.str s), .c (.sl 5 rn rt xs), .c (.sl 3 kn kt ys)], .c (.int .i64 n), .c (.int .i64 d)], [] => some ([isRows xs, isL ys, decide (depL (decL ys) < dd), decide (0 ≤ n), decide (n ≤ 1000), decide (-1000 ≤ d), decide (d ≤ 1000), lensT (.node s (toRows xs) (decL ys))], [V.i (leftT (.node s (toRows xs) (decL ys)) n d)], [])
  | _, _ => none
noncomputable abbrev p90 : Par := par E sh (ctOf [(135, s135), (90, s90 dd)]) 90 3 0
abbrev s90_0 (s : List UInt8) (rn : Option Bool) (rt : Bool) (xs : List (List C)) (kn : Option Bool) (kt : Bool) (ys : List (List C)) (d : Int) (i1 : Int) (i7 : Int) : Fr × Hp := ([(1, V.c (C.int IntKind.i64 i1)), (2, V.c (C.int IntKind.i64 d)), (3, V.ptr 0 0 0 0), (7, V.c (C.int IntKind.i64 i7))], [O.box [V.c (C.str s), V.c (C.sl 5 rn rt xs), V.c (C.sl 3 kn kt ys)]])
noncomputable abbrev b90_0 : Code := loopAt (codeOf E (90)) 0
abbrev x90_0x0 (s : List UInt8) (rn : Option Bool) (rt : Bool) (xs : List (List C)) (kn : Option Bool) (kt : Bool) (ys : List (List C)) (d : Int) (i1 : Int) (i7 : Int) : Ex × Fr × Hp := (Ex.exit 0, [(1, V.c (C.int IntKind.i64 i1)), (2, V.c (C.int IntKind.i64 d)), (3, V.ptr 0 0 0 0), (7, V.c (C.int IntKind.i64 i7)), (35, V.c (C.bool false))], [O.box [V.c (C.str s), V.c (C.sl 5 rn rt xs), V.c (C.sl 3 kn kt ys)]])
theorem t90_0 (s : List UInt8) (rn : Option Bool) (rt : Bool) (xs : List (List C)) (kn : Option Bool) (kt : Bool) (ys : List (List C)) (d : Int) (i1 : Int) (i7 : Int) : (p90 dd).lts b90_0 (s90_0 s rn rt xs kn kt ys d i1 i7) = (Tr.br (decide (i7 < (↑ys.length : Int))) (Tr.br (decide (0 < i1)) (Tr.chk (decide (0 ≤ i7)) (Tr.chk true (Tr.chk (decide (i7.toNat < ys.length)) (Tr.chk (shOk [Sk.str, Sk.sl 5, Sk.sl 3] (ys.getD i7.toNat [])) (Tr.chk (isRows ((ys.getD i7.toNat []).tail.headD C.pnil).xs) (Tr.chk (isL ((ys.getD i7.toNat []).tail.tail.headD C.pnil).xs) (Tr.chk (decide (depL (decL ((ys.getD i7.toNat []).tail.tail.headD C.pnil).xs) < dd)) (Tr.chk (decide (0 ≤ i1)) (Tr.chk (decide (i1 ≤ 1000)) (Tr.chk (decide (-1000 ≤ IntKind.i64.wrap (d - 1))) (Tr.chk (decide (IntKind.i64.wrap (d - 1) ≤ 1000)) (Tr.chk (lensT (Nd.node ((ys.getD i7.toNat []).headD C.pnil).st (toRows ((ys.getD i7.toNat []).tail.headD C.pnil).xs) (decL ((ys.getD i7.toNat []).tail.tail.headD C.pnil).xs))) (Tr.leaf (R.s (s90_0 s rn rt xs kn kt ys d (leftT (Nd.node ((ys.getD i7.toNat []).headD C.pnil).st (toRows ((ys.getD i7.toNat []).tail.headD C.pnil).xs) (decL ((ys.getD i7.toNat []).tail.tail.headD C.pnil).xs)) i1 (IntKind.i64.wrap (d - 1))) (IntKind.i64.wrap (i7 + 1))))))))))))))))) (Tr.leaf (R.x (x90_0x0 s rn rt xs kn kt ys d i1 i7)))) (Tr.leaf (R.x (x90_0x0 s rn rt xs kn kt ys d i1 i7)))) := by kernel_rfl
theorem k90_0x0 (dd : Nat) (s : List UInt8) (rn : Option Bool) (rt : Bool) (xs : List (List C)) (kn : Option Bool) (kt : Bool) (ys : List (List C)) (d : Int) (i1 : Int) (i7 : Int) : (p90 dd).fkx 0 (x90_0x0 s rn rt xs kn kt ys d i1 i7) = (Tr.leaf (R.out [V.c (C.int IntKind.i64 i1)] [])) := by kernel_rfl
theorem t90 (s : List UInt8) (rn : Option Bool) (rt : Bool) (xs : List (List C)) (kn : Option Bool) (kt : Bool) (ys : List (List C)) (n : Int) (d : Int) : (p90 dd).ft ([V.agg [V.c (C.str s), V.c (C.sl 5 rn rt xs), V.c (C.sl 3 kn kt ys)], V.i n, V.i d]) ([]) = (Tr.chk true (Tr.br (decide (d < 1)) (Tr.leaf (R.out [V.c (C.int IntKind.i64 0)] [])) (Tr.br (decide (IntKind.i64.wrap (IntKind.i64.wrap (n - 1) - IntKind.i64.wrap ((↑s.length : Int).tdiv 50)) < 1)) (Tr.leaf (R.out [V.c (C.int IntKind.i64 0)] [])) (Tr.chk (isRows xs) (Tr.br (!shortR (toRows xs)) (Tr.leaf (R.out [V.c (C.int IntKind.i64 0)] [])) (Tr.ls 0 (s90_0 s rn rt xs kn kt ys d (IntKind.i64.wrap (IntKind.i64.wrap (n - 1) - IntKind.i64.wrap ((↑s.length : Int).tdiv 50))) (0)))))))) := by kernel_rfl
noncomputable abbrev p41 : Par := par E sh (ctOf [(90, s90 dd)]) 41 1 0
theorem t41 (s : List UInt8) (rn : Option Bool) (rt : Bool) (xs : List (List C)) (kn : Option Bool) (kt : Bool) (ys : List (List C)) : (p41 dd).ft ([V.agg [V.c (C.str s), V.c (C.sl 5 rn rt xs), V.c (C.sl 3 kn kt ys)]]) ([]) = (Tr.chk (isRows xs) (Tr.chk (isL ys) (Tr.chk (decide (depL (decL ys) < dd)) (Tr.chk true (Tr.chk true (Tr.chk true (Tr.chk true (Tr.chk (lensT (Nd.node s (toRows xs) (decL ys))) (Tr.leaf (R.out [V.c (C.bool (decide (0 < leftT (Nd.node s (toRows xs) (decL ys)) 200 60)))] [])))))))))) := by kernel_rfl
def smallD (t : Nd) : Bool := decide (0 < leftT t 200 60)
def s41 : CSpec := fun a h => match a, h with
  | [.agg [.c (.str s), .c (.sl 5 rn rt xs), .c (.sl 3 kn kt ys)]], [] => some ([isRows xs, isL ys, lensT (.node s (toRows xs) (decL ys))], [V.b (smallD (.node s (toRows xs) (decL ys)))], [])
  | _, _ => none
def s42 : CSpec := fun a h => match a, h with
  | [], [] => some ([], [V.b true], [])
  | _, _ => none
def s43 : CSpec := fun a h => match a, h with
  | [.agg [.c (.str s), .c (.sl 5 none false xs), .c (.sl 3 none false ys)], .agg [.c (.str s2), .c (.sl 5 none false xs2), .c (.sl 3 none false ys2)], .agg [.c (.str s3), .c (.sl 5 none false xs3), .c (.sl 3 none false ys3)]], [] => some ([isRows xs, isL ys, isRows xs2, isL ys2, isRows xs3, isL ys3, decide ((entL (decL ys)).length < 1000000000), decide ((entL (decL ys2)).length < 1000000000), decide ((entL (decL ys3)).length < 1000000000)],
    [VT (mergeP (.node s (toRows xs) (decL ys)) (.node s2 (toRows xs2) (decL ys2)) (.node s3 (toRows xs3) (decL ys3))).1, .c (.sl 1 none false (strs (mergeP (.node s (toRows xs) (decL ys)) (.node s2 (toRows xs2) (decL ys2)) (.node s3 (toRows xs3) (decL ys3))).2.1)), V.i (mergeP (.node s (toRows xs) (decL ys)) (.node s2 (toRows xs2) (decL ys2)) (.node s3 (toRows xs3) (decL ys3))).2.2], [])
  | _, _ => none
def s46 : CSpec := fun a h => match a, h with
  | [.agg [.c (.str s), .c (.sl 5 none false xs), .c (.sl 3 none false ys)], .agg [.c (.str s2), .c (.sl 5 none false xs2), .c (.sl 3 none false ys2)]], [] => some ([isRows xs, isL ys, isRows xs2, isL ys2, decide ((entL (decL ys)).length < 1000000000), decide ((entL (decL ys2)).length < 1000000000)],
    [.c (.sl 3 none false (chgs (chgP (.node s (toRows xs) (decL ys)) (.node s2 (toRows xs2) (decL ys2)))))], [])
  | _, _ => none
noncomputable abbrev p11 : Par := par E sh (ctOf [(17, s17n), (26, s26), (27, s27), (28, s28), (41, s41), (42, s42), (43, s43), (46, s46)]) 11 3 0
abbrev s11_0 (nl8 : Option Bool) (t8 : Bool) (xs8 : List (List C)) (i9 : Int) (nl11 : Option Bool) (t11 : Bool) (xs11 : List (List C)) (nl19 : Option Bool) (t19 : Bool) (xs19 : List (List C)) (nl20 : Option Bool) (t20 : Bool) (xs20 : List (List C)) (i21 : Int) (i22 : Int) (sh0 : List UInt8) (nlh0 : Option Bool) (th0 : Bool) (xsh0 : List (List C)) (nlh0_1 : Option Bool) (th0_1 : Bool) (xsh0_1 : List (List C)) : Fr × Hp := ([(7, V.ptr 0 0 0 0), (8, V.c (C.sl 1 nl8 t8 xs8)), (9, V.c (C.int IntKind.i64 i9)), (11, V.c (C.sl 1 nl11 t11 xs11)), (19, V.c (C.sl 3 nl19 t19 xs19)), (20, V.c (C.sl 3 nl20 t20 xs20)), (21, V.c (C.int IntKind.i64 i21)), (22, V.c (C.int IntKind.i64 i22))], [O.box [V.c (C.str sh0), V.c (C.sl 5 nlh0 th0 xsh0), V.c (C.sl 3 nlh0_1 th0_1 xsh0_1)]])
noncomputable abbrev b11_0 : Code := loopAt (codeOf E (11)) 0
abbrev s11_0_0 (nl8 : Option Bool) (t8 : Bool) (xs8 : List (List C)) (i9 : Int) (nl11 : Option Bool) (t11 : Bool) (xs11 : List (List C)) (nl19 : Option Bool) (t19 : Bool) (xs19 : List (List C)) (nl20 : Option Bool) (t20 : Bool) (xs20 : List (List C)) (i21 : Int) (i22 : Int) (sh0 : List UInt8) (nlh0 : Option Bool) (th0 : Bool) (xsh0 : List (List C)) (nlh0_1 : Option Bool) (th0_1 : Bool) (xsh0_1 : List (List C)) (i23 : Int) : Fr × Hp := ([(7, V.ptr 0 0 0 0), (8, V.c (C.sl 1 nl8 t8 xs8)), (9, V.c (C.int IntKind.i64 i9)), (11, V.c (C.sl 1 nl11 t11 xs11)), (19, V.c (C.sl 3 nl19 t19 xs19)), (20, V.c (C.sl 3 nl20 t20 xs20)), (21, V.c (C.int IntKind.i64 i21)), (22, V.c (C.int IntKind.i64 i22)), (23, V.c (C.int IntKind.i64 i23))], [O.box [V.c (C.str sh0), V.c (C.sl 5 nlh0 th0 xsh0), V.c (C.sl 3 nlh0_1 th0_1 xsh0_1)]])
noncomputable abbrev b11_0_0 : Code := loopAt b11_0 0
abbrev x11_0_0x0 (sh0 : List UInt8) (nlh0 : Option Bool) (th0 : Bool) (xsh0 : List (List C)) (nlh0_1 : Option Bool) (th0_1 : Bool) (xsh0_1 : List (List C)) : Ex × Fr × Hp := (Ex.ret, [(6, V.c (C.bool false))], [O.box [V.c (C.str sh0), V.c (C.sl 5 nlh0 th0 xsh0), V.c (C.sl 3 nlh0_1 th0_1 xsh0_1)]])
abbrev x11_0_0x1 (nl8 : Option Bool) (t8 : Bool) (xs8 : List (List C)) (i9 : Int) (nl11 : Option Bool) (t11 : Bool) (xs11 : List (List C)) (nl19 : Option Bool) (t19 : Bool) (xs19 : List (List C)) (nl20 : Option Bool) (t20 : Bool) (xs20 : List (List C)) (i21 : Int) (i22 : Int) (sh0 : List UInt8) (nlh0 : Option Bool) (th0 : Bool) (xsh0 : List (List C)) (nlh0_1 : Option Bool) (th0_1 : Bool) (xsh0_1 : List (List C)) (i23 : Int) : Ex × Fr × Hp := (Ex.exit 2, [(7, V.ptr 0 0 0 0), (8, V.c (C.sl 1 nl8 t8 xs8)), (9, V.c (C.int IntKind.i64 i9)), (11, V.c (C.sl 1 nl11 t11 xs11)), (19, V.c (C.sl 3 nl19 t19 xs19)), (20, V.c (C.sl 3 nl20 t20 xs20)), (21, V.c (C.int IntKind.i64 i21)), (22, V.c (C.int IntKind.i64 i22)), (23, V.c (C.int IntKind.i64 i23)), (138, V.c (C.bool false))], [O.box [V.c (C.str sh0), V.c (C.sl 5 nlh0 th0 xsh0), V.c (C.sl 3 nlh0_1 th0_1 xsh0_1)]])
abbrev x11_0x1 (nl8 : Option Bool) (t8 : Bool) (xs8 : List (List C)) (i9 : Int) (nl11 : Option Bool) (t11 : Bool) (xs11 : List (List C)) (nl19 : Option Bool) (t19 : Bool) (xs19 : List (List C)) (nl20 : Option Bool) (t20 : Bool) (xs20 : List (List C)) (i21 : Int) (i22 : Int) (sh0 : List UInt8) (nlh0 : Option Bool) (th0 : Bool) (xsh0 : List (List C)) (nlh0_1 : Option Bool) (th0_1 : Bool) (xsh0_1 : List (List C)) : Ex × Fr × Hp := (Ex.exit 0, [(7, V.ptr 0 0 0 0), (8, V.c (C.sl 1 nl8 t8 xs8)), (9, V.c (C.int IntKind.i64 i9)), (11, V.c (C.sl 1 nl11 t11 xs11)), (19, V.c (C.sl 3 nl19 t19 xs19)), (20, V.c (C.sl 3 nl20 t20 xs20)), (21, V.c (C.int IntKind.i64 i21)), (22, V.c (C.int IntKind.i64 i22)), (132, V.c (C.bool false))], [O.box [V.c (C.str sh0), V.c (C.sl 5 nlh0 th0 xsh0), V.c (C.sl 3 nlh0_1 th0_1 xsh0_1)]])
abbrev s11_1 (nl19 : Option Bool) (t19 : Bool) (xs19 : List (List C)) (nl20 : Option Bool) (t20 : Bool) (xs20 : List (List C)) (sh0 : List UInt8) (nlh0 : Option Bool) (th0 : Bool) (xsh0 : List (List C)) (nlh0_1 : Option Bool) (th0_1 : Bool) (xsh0_1 : List (List C)) (i24 : Int) : Fr × Hp := ([(7, V.ptr 0 0 0 0), (19, V.c (C.sl 3 nl19 t19 xs19)), (20, V.c (C.sl 3 nl20 t20 xs20)), (24, V.c (C.int IntKind.i64 i24))], [O.box [V.c (C.str sh0), V.c (C.sl 5 nlh0 th0 xsh0), V.c (C.sl 3 nlh0_1 th0_1 xsh0_1)]])
noncomputable abbrev b11_1 : Code := loopAt (codeOf E (11)) 1
abbrev x11_1x0 (sh0 : List UInt8) (nlh0 : Option Bool) (th0 : Bool) (xsh0 : List (List C)) (nlh0_1 : Option Bool) (th0_1 : Bool) (xsh0_1 : List (List C)) : Ex × Fr × Hp := (Ex.ret, [(6, V.c (C.bool false))], [O.box [V.c (C.str sh0), V.c (C.sl 5 nlh0 th0 xsh0), V.c (C.sl 3 nlh0_1 th0_1 xsh0_1)]])
abbrev x11_1x1 (nl19 : Option Bool) (t19 : Bool) (xs19 : List (List C)) (nl20 : Option Bool) (t20 : Bool) (xs20 : List (List C)) (sh0 : List UInt8) (nlh0 : Option Bool) (th0 : Bool) (xsh0 : List (List C)) (nlh0_1 : Option Bool) (th0_1 : Bool) (xsh0_1 : List (List C)) (i24 : Int) : Ex × Fr × Hp := (Ex.exit 4, [(7, V.ptr 0 0 0 0), (19, V.c (C.sl 3 nl19 t19 xs19)), (20, V.c (C.sl 3 nl20 t20 xs20)), (24, V.c (C.int IntKind.i64 i24)), (212, V.c (C.bool false))], [O.box [V.c (C.str sh0), V.c (C.sl 5 nlh0 th0 xsh0), V.c (C.sl 3 nlh0_1 th0_1 xsh0_1)]])
abbrev s11_2 (nl20 : Option Bool) (t20 : Bool) (xs20 : List (List C)) (sh0 : List UInt8) (nlh0 : Option Bool) (th0 : Bool) (xsh0 : List (List C)) (nlh0_1 : Option Bool) (th0_1 : Bool) (xsh0_1 : List (List C)) (i25 : Int) : Fr × Hp := ([(7, V.ptr 0 0 0 0), (20, V.c (C.sl 3 nl20 t20 xs20)), (25, V.c (C.int IntKind.i64 i25))], [O.box [V.c (C.str sh0), V.c (C.sl 5 nlh0 th0 xsh0), V.c (C.sl 3 nlh0_1 th0_1 xsh0_1)]])
noncomputable abbrev b11_2 : Code := loopAt (codeOf E (11)) 2
abbrev x11_2x0 (sh0 : List UInt8) (nlh0 : Option Bool) (th0 : Bool) (xsh0 : List (List C)) (nlh0_1 : Option Bool) (th0_1 : Bool) (xsh0_1 : List (List C)) : Ex × Fr × Hp := (Ex.ret, [(6, V.c (C.bool false))], [O.box [V.c (C.str sh0), V.c (C.sl 5 nlh0 th0 xsh0), V.c (C.sl 3 nlh0_1 th0_1 xsh0_1)]])
abbrev x11_2x1 (nl20 : Option Bool) (t20 : Bool) (xs20 : List (List C)) (sh0 : List UInt8) (nlh0 : Option Bool) (th0 : Bool) (xsh0 : List (List C)) (nlh0_1 : Option Bool) (th0_1 : Bool) (xsh0_1 : List (List C)) (i25 : Int) : Ex × Fr × Hp := (Ex.exit 6, [(7, V.ptr 0 0 0 0), (20, V.c (C.sl 3 nl20 t20 xs20)), (25, V.c (C.int IntKind.i64 i25)), (232, V.c (C.bool false))], [O.box [V.c (C.str sh0), V.c (C.sl 5 nlh0 th0 xsh0), V.c (C.sl 3 nlh0_1 th0_1 xsh0_1)]])
theorem t11_0_0 (nl8 : Option Bool) (t8 : Bool) (xs8 : List (List C)) (i9 : Int) (nl11 : Option Bool) (t11 : Bool) (xs11 : List (List C)) (nl19 : Option Bool) (t19 : Bool) (xs19 : List (List C)) (nl20 : Option Bool) (t20 : Bool) (xs20 : List (List C)) (i21 : Int) (i22 : Int) (sh0 : List UInt8) (nlh0 : Option Bool) (th0 : Bool) (xsh0 : List (List C)) (nlh0_1 : Option Bool) (th0_1 : Bool) (xsh0_1 : List (List C)) (i23 : Int) : p11.lts b11_0_0 (s11_0_0 nl8 t8 xs8 i9 nl11 t11 xs11 nl19 t19 xs19 nl20 t20 xs20 i21 i22 sh0 nlh0 th0 xsh0 nlh0_1 th0_1 xsh0_1 i23) = (Tr.br (decide (i23 < (↑xs20.length : Int))) (Tr.chk (decide (0 ≤ i22)) (Tr.chk true (Tr.chk (decide (i22.toNat < xs19.length)) (Tr.chk (shOk [Sk.str, Sk.slx 5, Sk.slx 5] (xs19.getD i22.toNat [])) (Tr.chk (decide (0 ≤ i23)) (Tr.chk true (Tr.chk (decide (i23.toNat < xs20.length)) (Tr.chk (shOk [Sk.str, Sk.slx 5, Sk.slx 5] (xs20.getD i23.toNat [])) (Tr.br (((xs19.getD i22.toNat []).headD C.pnil).st == ((xs20.getD i23.toNat []).headD C.pnil).st) (Tr.chk (decide (0 ≤ i22)) (Tr.chk true (Tr.chk (decide (i22.toNat < xs19.length)) (Tr.chk (shOk [Sk.str, Sk.slx 5, Sk.slx 5] (xs19.getD i22.toNat [])) (Tr.chk (decide (0 ≤ i23)) (Tr.chk true (Tr.chk (decide (i23.toNat < xs20.length)) (Tr.chk (shOk [Sk.str, Sk.slx 5, Sk.slx 5] (xs20.getD i23.toNat [])) (Tr.chk (isRows ((xs19.getD i22.toNat []).tail.tail.headD C.pnil).xs) (Tr.chk (isRows ((xs20.getD i23.toNat []).tail.tail.headD C.pnil).xs) (Tr.chk (decide (((xs19.getD i22.toNat []).tail.tail.headD C.pnil).xs.length ≤ 9223372036854775807)) (Tr.br (!decide (toRows ((xs19.getD i22.toNat []).tail.tail.headD C.pnil).xs = toRows ((xs20.getD i23.toNat []).tail.tail.headD C.pnil).xs)) (Tr.br (decide ((↑xs8.length : Int) ≤ i21)) (Tr.leaf (R.x (x11_0_0x0 sh0 nlh0 th0 xsh0 nlh0_1 th0_1 xsh0_1))) (Tr.chk (decide (0 ≤ i21)) (Tr.chk true (Tr.chk (decide (i21.toNat < xs8.length)) (Tr.chk (shOk [Sk.str] (xs8.getD i21.toNat [])) (Tr.chk (decide (0 ≤ i22)) (Tr.chk true (Tr.chk (decide (i22.toNat < xs19.length)) (Tr.chk (shOk [Sk.str, Sk.slx 5, Sk.slx 5] (xs19.getD i22.toNat [])) (Tr.br (!((xs8.getD i21.toNat []).headD C.pnil).st == ((xs19.getD i22.toNat []).headD C.pnil).st) (Tr.leaf (R.x (x11_0_0x0 sh0 nlh0 th0 xsh0 nlh0_1 th0_1 xsh0_1))) (Tr.chk (decide (0 ≤ i21)) (Tr.chk true (Tr.chk (decide (i21.toNat < xs11.length)) (Tr.chk (shOk [Sk.str] (xs11.getD i21.toNat [])) (Tr.chk (decide (0 ≤ i22)) (Tr.chk true (Tr.chk (decide (i22.toNat < xs19.length)) (Tr.chk (shOk [Sk.str, Sk.slx 5, Sk.slx 5] (xs19.getD i22.toNat [])) (Tr.br (!((xs11.getD i21.toNat []).headD C.pnil).st == ((xs19.getD i22.toNat []).headD C.pnil).st) (Tr.leaf (R.x (x11_0_0x0 sh0 nlh0 th0 xsh0 nlh0_1 th0_1 xsh0_1))) (Tr.leaf (R.s (s11_0_0 nl8 t8 xs8 i9 nl11 t11 xs11 nl19 t19 xs19 nl20 t20 xs20 (IntKind.i64.wrap (i21 + 1)) i22 sh0 nlh0 th0 xsh0 nlh0_1 th0_1 xsh0_1 (IntKind.i64.wrap (i23 + 1)))))))))))))))))))))))) (Tr.leaf (R.s (s11_0_0 nl8 t8 xs8 i9 nl11 t11 xs11 nl19 t19 xs19 nl20 t20 xs20 i21 i22 sh0 nlh0 th0 xsh0 nlh0_1 th0_1 xsh0_1 (IntKind.i64.wrap (i23 + 1))))))))))))))))) (Tr.leaf (R.s (s11_0_0 nl8 t8 xs8 i9 nl11 t11 xs11 nl19 t19 xs19 nl20 t20 xs20 i21 i22 sh0 nlh0 th0 xsh0 nlh0_1 th0_1 xsh0_1 (IntKind.i64.wrap (i23 + 1)))))))))))))) (Tr.leaf (R.x (x11_0_0x1 nl8 t8 xs8 i9 nl11 t11 xs11 nl19 t19 xs19 nl20 t20 xs20 i21 i22 sh0 nlh0 th0 xsh0 nlh0_1 th0_1 xsh0_1 i23)))) := by kernel_rfl
theorem k11_0_0x1 (nl8 : Option Bool) (t8 : Bool) (xs8 : List (List C)) (i9 : Int) (nl11 : Option Bool) (t11 : Bool) (xs11 : List (List C)) (nl19 : Option Bool) (t19 : Bool) (xs19 : List (List C)) (nl20 : Option Bool) (t20 : Bool) (xs20 : List (List C)) (i21 : Int) (i22 : Int) (sh0 : List UInt8) (nlh0 : Option Bool) (th0 : Bool) (xsh0 : List (List C)) (nlh0_1 : Option Bool) (th0_1 : Bool) (xsh0_1 : List (List C)) (i23 : Int) : p11.lkx b11_0 0 (x11_0_0x1 nl8 t8 xs8 i9 nl11 t11 xs11 nl19 t19 xs19 nl20 t20 xs20 i21 i22 sh0 nlh0 th0 xsh0 nlh0_1 th0_1 xsh0_1 i23) = (Tr.leaf (R.s (s11_0 nl8 t8 xs8 i9 nl11 t11 xs11 nl19 t19 xs19 nl20 t20 xs20 i21 (IntKind.i64.wrap (i22 + 1)) sh0 nlh0 th0 xsh0 nlh0_1 th0_1 xsh0_1))) := by kernel_rfl
theorem t11_0 (nl8 : Option Bool) (t8 : Bool) (xs8 : List (List C)) (i9 : Int) (nl11 : Option Bool) (t11 : Bool) (xs11 : List (List C)) (nl19 : Option Bool) (t19 : Bool) (xs19 : List (List C)) (nl20 : Option Bool) (t20 : Bool) (xs20 : List (List C)) (i21 : Int) (i22 : Int) (sh0 : List UInt8) (nlh0 : Option Bool) (th0 : Bool) (xsh0 : List (List C)) (nlh0_1 : Option Bool) (th0_1 : Bool) (xsh0_1 : List (List C)) : p11.lts b11_0 (s11_0 nl8 t8 xs8 i9 nl11 t11 xs11 nl19 t19 xs19 nl20 t20 xs20 i21 i22 sh0 nlh0 th0 xsh0 nlh0_1 th0_1 xsh0_1) = (Tr.br (decide (i22 < (↑xs19.length : Int))) (Tr.ls 0 (s11_0_0 nl8 t8 xs8 i9 nl11 t11 xs11 nl19 t19 xs19 nl20 t20 xs20 i21 i22 sh0 nlh0 th0 xsh0 nlh0_1 th0_1 xsh0_1 (0))) (Tr.leaf (R.x (x11_0x1 nl8 t8 xs8 i9 nl11 t11 xs11 nl19 t19 xs19 nl20 t20 xs20 i21 i22 sh0 nlh0 th0 xsh0 nlh0_1 th0_1 xsh0_1)))) := by kernel_rfl
theorem t11_1 (nl19 : Option Bool) (t19 : Bool) (xs19 : List (List C)) (nl20 : Option Bool) (t20 : Bool) (xs20 : List (List C)) (sh0 : List UInt8) (nlh0 : Option Bool) (th0 : Bool) (xsh0 : List (List C)) (nlh0_1 : Option Bool) (th0_1 : Bool) (xsh0_1 : List (List C)) (i24 : Int) : p11.lts b11_1 (s11_1 nl19 t19 xs19 nl20 t20 xs20 sh0 nlh0 th0 xsh0 nlh0_1 th0_1 xsh0_1 i24) = (Tr.br (decide (i24 < (↑xs19.length : Int))) (Tr.chk (decide (0 ≤ i24)) (Tr.chk true (Tr.chk (decide (i24.toNat < xs19.length)) (Tr.chk (shOk [Sk.str, Sk.slx 5, Sk.slx 5] (xs19.getD i24.toNat [])) (Tr.chk (isRows xsh0) (Tr.chk (isL xsh0_1) (Tr.chk (decide (0 ≤ i24)) (Tr.chk true (Tr.chk (decide (i24.toNat < xs19.length)) (Tr.chk (shOk [Sk.str, Sk.slx 5, Sk.slx 5] (xs19.getD i24.toNat [])) (Tr.chk (isRows (rows (getR (Nd.node sh0 (toRows xsh0) (decL xsh0_1)) ((xs19.getD i24.toNat []).headD C.pnil).st))) (Tr.chk (isRows ((xs19.getD i24.toNat []).tail.tail.headD C.pnil).xs) (Tr.chk (decide ((rows (getR (Nd.node sh0 (toRows xsh0) (decL xsh0_1)) ((xs19.getD i24.toNat []).headD C.pnil).st)).length ≤ 9223372036854775807)) (Tr.br (!decide (toRows (rows (getR (Nd.node sh0 (toRows xsh0) (decL xsh0_1)) ((xs19.getD i24.toNat []).headD C.pnil).st)) = toRows ((xs19.getD i24.toNat []).tail.tail.headD C.pnil).xs)) (Tr.leaf (R.x (x11_1x0 sh0 nlh0 th0 xsh0 nlh0_1 th0_1 xsh0_1))) (Tr.leaf (R.s (s11_1 nl19 t19 xs19 nl20 t20 xs20 sh0 nlh0 th0 xsh0 nlh0_1 th0_1 xsh0_1 (IntKind.i64.wrap (i24 + 1))))))))))))))))))) (Tr.leaf (R.x (x11_1x1 nl19 t19 xs19 nl20 t20 xs20 sh0 nlh0 th0 xsh0 nlh0_1 th0_1 xsh0_1 i24)))) := by kernel_rfl
theorem t11_2 (nl20 : Option Bool) (t20 : Bool) (xs20 : List (List C)) (sh0 : List UInt8) (nlh0 : Option Bool) (th0 : Bool) (xsh0 : List (List C)) (nlh0_1 : Option Bool) (th0_1 : Bool) (xsh0_1 : List (List C)) (i25 : Int) : p11.lts b11_2 (s11_2 nl20 t20 xs20 sh0 nlh0 th0 xsh0 nlh0_1 th0_1 xsh0_1 i25) = (Tr.br (decide (i25 < (↑xs20.length : Int))) (Tr.chk (decide (0 ≤ i25)) (Tr.chk true (Tr.chk (decide (i25.toNat < xs20.length)) (Tr.chk (shOk [Sk.str, Sk.slx 5, Sk.slx 5] (xs20.getD i25.toNat [])) (Tr.chk (isRows xsh0) (Tr.chk (isL xsh0_1) (Tr.chk (decide (0 ≤ i25)) (Tr.chk true (Tr.chk (decide (i25.toNat < xs20.length)) (Tr.chk (shOk [Sk.str, Sk.slx 5, Sk.slx 5] (xs20.getD i25.toNat [])) (Tr.chk (isRows (rows (getR (Nd.node sh0 (toRows xsh0) (decL xsh0_1)) ((xs20.getD i25.toNat []).headD C.pnil).st))) (Tr.chk (isRows ((xs20.getD i25.toNat []).tail.tail.headD C.pnil).xs) (Tr.chk (decide ((rows (getR (Nd.node sh0 (toRows xsh0) (decL xsh0_1)) ((xs20.getD i25.toNat []).headD C.pnil).st)).length ≤ 9223372036854775807)) (Tr.br (!decide (toRows (rows (getR (Nd.node sh0 (toRows xsh0) (decL xsh0_1)) ((xs20.getD i25.toNat []).headD C.pnil).st)) = toRows ((xs20.getD i25.toNat []).tail.tail.headD C.pnil).xs)) (Tr.leaf (R.x (x11_2x0 sh0 nlh0 th0 xsh0 nlh0_1 th0_1 xsh0_1))) (Tr.leaf (R.s (s11_2 nl20 t20 xs20 sh0 nlh0 th0 xsh0 nlh0_1 th0_1 xsh0_1 (IntKind.i64.wrap (i25 + 1))))))))))))))))))) (Tr.leaf (R.x (x11_2x1 nl20 t20 xs20 sh0 nlh0 th0 xsh0 nlh0_1 th0_1 xsh0_1 i25)))) := by kernel_rfl
theorem k11_2x1 (nl20 : Option Bool) (t20 : Bool) (xs20 : List (List C)) (sh0 : List UInt8) (nlh0 : Option Bool) (th0 : Bool) (xsh0 : List (List C)) (nlh0_1 : Option Bool) (th0_1 : Bool) (xsh0_1 : List (List C)) (i25 : Int) : p11.fkx 2 (x11_2x1 nl20 t20 xs20 sh0 nlh0 th0 xsh0 nlh0_1 th0_1 xsh0_1 i25) = (Tr.leaf (R.out [V.c (C.bool true)] [])) := by kernel_rfl
theorem k11_1x1 (nl19 : Option Bool) (t19 : Bool) (xs19 : List (List C)) (nl20 : Option Bool) (t20 : Bool) (xs20 : List (List C)) (sh0 : List UInt8) (nlh0 : Option Bool) (th0 : Bool) (xsh0 : List (List C)) (nlh0_1 : Option Bool) (th0_1 : Bool) (xsh0_1 : List (List C)) (i24 : Int) : p11.fkx 1 (x11_1x1 nl19 t19 xs19 nl20 t20 xs20 sh0 nlh0 th0 xsh0 nlh0_1 th0_1 xsh0_1 i24) = (Tr.ls 2 (s11_2 nl20 t20 xs20 sh0 nlh0 th0 xsh0 nlh0_1 th0_1 xsh0_1 (0))) := by kernel_rfl
theorem k11_0x1 (nl8 : Option Bool) (t8 : Bool) (xs8 : List (List C)) (i9 : Int) (nl11 : Option Bool) (t11 : Bool) (xs11 : List (List C)) (nl19 : Option Bool) (t19 : Bool) (xs19 : List (List C)) (nl20 : Option Bool) (t20 : Bool) (xs20 : List (List C)) (i21 : Int) (i22 : Int) (sh0 : List UInt8) (nlh0 : Option Bool) (th0 : Bool) (xsh0 : List (List C)) (nlh0_1 : Option Bool) (th0_1 : Bool) (xsh0_1 : List (List C)) : p11.fkx 0 (x11_0x1 nl8 t8 xs8 i9 nl11 t11 xs11 nl19 t19 xs19 nl20 t20 xs20 i21 i22 sh0 nlh0 th0 xsh0 nlh0_1 th0_1 xsh0_1) = (Tr.br (i21 != (↑xs8.length : Int)) (Tr.leaf (R.out [V.c (C.bool false)] [])) (Tr.br (!(i9 == 0) == (i21 == 0)) (Tr.leaf (R.out [V.c (C.bool false)] [])) (Tr.br (i9 == 0) (Tr.ls 1 (s11_1 nl19 t19 xs19 nl20 t20 xs20 sh0 nlh0 th0 xsh0 nlh0_1 th0_1 xsh0_1 (0))) (Tr.leaf (R.out [V.c (C.bool true)] []))))) := by kernel_rfl
abbrev c11_1 (s : List UInt8) (xs : List (List C)) (ys : List (List C)) := (Nd.node s (toRows xs) (decL ys))
abbrev c11_2 (s : List UInt8) (xs : List (List C)) (ys : List (List C)) (s2 : List UInt8) (xs2 : List (List C)) (ys2 : List (List C)) (s3 : List UInt8) (xs3 : List (List C)) (ys3 : List (List C)) := (mergeP (c11_1 s xs ys) (Nd.node s2 (toRows xs2) (decL ys2)) (Nd.node s3 (toRows xs3) (decL ys3)))
abbrev c11_3 (s : List UInt8) (xs : List (List C)) (ys : List (List C)) (s2 : List UInt8) (xs2 : List (List C)) (ys2 : List (List C)) := (mergeP (c11_1 s xs ys) (Nd.node s2 (toRows xs2) (decL ys2)) (Nd.node s2 (toRows xs2) (decL ys2)))
abbrev c11_4 (s : List UInt8) (xs : List (List C)) (ys : List (List C)) (s3 : List UInt8) (xs3 : List (List C)) (ys3 : List (List C)) := (mergeP (c11_1 s xs ys) (c11_1 s xs ys) (Nd.node s3 (toRows xs3) (decL ys3)))
abbrev c11_5 (s : List UInt8) (xs : List (List C)) (ys : List (List C)) (s2 : List UInt8) (xs2 : List (List C)) (ys2 : List (List C)) (s3 : List UInt8) (xs3 : List (List C)) (ys3 : List (List C)) := (mergeP (c11_1 s xs ys) (Nd.node s3 (toRows xs3) (decL ys3)) (Nd.node s2 (toRows xs2) (decL ys2)))
theorem t11 (s : List UInt8) (xs : List (List C)) (ys : List (List C)) (s2 : List UInt8) (xs2 : List (List C)) (ys2 : List (List C)) (s3 : List UInt8) (xs3 : List (List C)) (ys3 : List (List C)) : p11.ft ([V.agg [V.c (C.str s), V.c (C.sl 5 none false xs), V.c (C.sl 3 none false ys)], V.agg [V.c (C.str s2), V.c (C.sl 5 none false xs2), V.c (C.sl 3 none false ys2)], V.agg [V.c (C.str s3), V.c (C.sl 5 none false xs3), V.c (C.sl 3 none false ys3)]]) ([]) = (Tr.chk (isRows xs) (Tr.chk (isL ys) (Tr.chk (lensT (c11_1 s xs ys)) (Tr.br (!smallD (c11_1 s xs ys)) (Tr.leaf (R.out [V.c (C.bool true)] [])) (Tr.chk (isRows xs2) (Tr.chk (isL ys2) (Tr.chk (lensT (Nd.node s2 (toRows xs2) (decL ys2))) (Tr.br (!smallD (Nd.node s2 (toRows xs2) (decL ys2))) (Tr.leaf (R.out [V.c (C.bool true)] [])) (Tr.chk (isRows xs3) (Tr.chk (isL ys3) (Tr.chk (lensT (Nd.node s3 (toRows xs3) (decL ys3))) (Tr.br (!smallD (Nd.node s3 (toRows xs3) (decL ys3))) (Tr.leaf (R.out [V.c (C.bool true)] [])) (Tr.chk (isRows xs) (Tr.chk (isL ys) (Tr.br (checkT (c11_1 s xs ys) != 0) (Tr.leaf (R.out [V.c (C.bool true)] [])) (Tr.chk (isRows xs2) (Tr.chk (isL ys2) (Tr.br (checkT (Nd.node s2 (toRows xs2) (decL ys2)) != 0) (Tr.leaf (R.out [V.c (C.bool true)] [])) (Tr.chk (isRows xs3) (Tr.chk (isL ys3) (Tr.br (checkT (Nd.node s3 (toRows xs3) (decL ys3)) != 0) (Tr.leaf (R.out [V.c (C.bool true)] [])) (Tr.chk (isRows xs) (Tr.chk (isL ys) (Tr.chk (isRows xs2) (Tr.chk (isL ys2) (Tr.chk (isRows xs3) (Tr.chk (isL ys3) (Tr.chk (decide ((entL (decL ys)).length < 1000000000)) (Tr.chk (decide ((entL (decL ys2)).length < 1000000000)) (Tr.chk (decide ((entL (decL ys3)).length < 1000000000)) (Tr.chk (isRows xs) (Tr.chk (isL ys) (Tr.chk (isRows xs3) (Tr.chk (isL ys3) (Tr.chk (isRows xs2) (Tr.chk (isL ys2) (Tr.chk (decide ((entL (decL ys)).length < 1000000000)) (Tr.chk (decide ((entL (decL ys3)).length < 1000000000)) (Tr.chk (decide ((entL (decL ys2)).length < 1000000000)) (Tr.chk (isRows xs) (Tr.chk (isL ys) (Tr.chk (isRows xs) (Tr.chk (isL ys) (Tr.chk (isRows xs3) (Tr.chk (isL ys3) (Tr.chk (decide ((entL (decL ys)).length < 1000000000)) (Tr.chk (decide ((entL (decL ys)).length < 1000000000)) (Tr.chk (decide ((entL (decL ys3)).length < 1000000000)) (Tr.chk (isRows xs) (Tr.chk (isL ys) (Tr.chk (isRows xs2) (Tr.chk (isL ys2) (Tr.chk (isRows xs2) (Tr.chk (isL ys2) (Tr.chk (decide ((entL (decL ys)).length < 1000000000)) (Tr.chk (decide ((entL (decL ys2)).length < 1000000000)) (Tr.chk (decide ((entL (decL ys2)).length < 1000000000)) (Tr.chk (isRows (rows (c11_2 s xs ys s2 xs2 ys2 s3 xs3 ys3).fst.rows)) (Tr.chk (isL (encL (c11_2 s xs ys s2 xs2 ys2 s3 xs3 ys3).fst.kids)) (Tr.chk (isRows (rows (c11_5 s xs ys s2 xs2 ys2 s3 xs3 ys3).fst.rows)) (Tr.chk (isL (encL (c11_5 s xs ys s2 xs2 ys2 s3 xs3 ys3).fst.kids)) (Tr.chk (lensT (Nd.node (c11_2 s xs ys s2 xs2 ys2 s3 xs3 ys3).fst.lab (toRows (rows (c11_2 s xs ys s2 xs2 ys2 s3 xs3 ys3).fst.rows)) (decL (encL (c11_2 s xs ys s2 xs2 ys2 s3 xs3 ys3).fst.kids)))) (Tr.br (!sameT (Nd.node (c11_2 s xs ys s2 xs2 ys2 s3 xs3 ys3).fst.lab (toRows (rows (c11_2 s xs ys s2 xs2 ys2 s3 xs3 ys3).fst.rows)) (decL (encL (c11_2 s xs ys s2 xs2 ys2 s3 xs3 ys3).fst.kids))) (Nd.node (c11_5 s xs ys s2 xs2 ys2 s3 xs3 ys3).fst.lab (toRows (rows (c11_5 s xs ys s2 xs2 ys2 s3 xs3 ys3).fst.rows)) (decL (encL (c11_5 s xs ys s2 xs2 ys2 s3 xs3 ys3).fst.kids)))) (Tr.leaf (R.out [V.c (C.bool false)] [])) (Tr.br ((↑(strs (c11_2 s xs ys s2 xs2 ys2 s3 xs3 ys3).snd.fst).length : Int) != (↑(strs (c11_5 s xs ys s2 xs2 ys2 s3 xs3 ys3).snd.fst).length : Int)) (Tr.leaf (R.out [V.c (C.bool false)] [])) (Tr.br ((c11_2 s xs ys s2 xs2 ys2 s3 xs3 ys3).snd.snd != (c11_5 s xs ys s2 xs2 ys2 s3 xs3 ys3).snd.snd) (Tr.leaf (R.out [V.c (C.bool false)] [])) (Tr.chk (isRows (rows (c11_4 s xs ys s3 xs3 ys3).fst.rows)) (Tr.chk (isL (encL (c11_4 s xs ys s3 xs3 ys3).fst.kids)) (Tr.chk (isRows xs3) (Tr.chk (isL ys3) (Tr.chk (lensT (Nd.node (c11_4 s xs ys s3 xs3 ys3).fst.lab (toRows (rows (c11_4 s xs ys s3 xs3 ys3).fst.rows)) (decL (encL (c11_4 s xs ys s3 xs3 ys3).fst.kids)))) (Tr.br (!sameT (Nd.node (c11_4 s xs ys s3 xs3 ys3).fst.lab (toRows (rows (c11_4 s xs ys s3 xs3 ys3).fst.rows)) (decL (encL (c11_4 s xs ys s3 xs3 ys3).fst.kids))) (Nd.node s3 (toRows xs3) (decL ys3))) (Tr.leaf (R.out [V.c (C.bool false)] [])) (Tr.br ((c11_4 s xs ys s3 xs3 ys3).snd.snd != 0) (Tr.leaf (R.out [V.c (C.bool false)] [])) (Tr.chk (isRows (rows (c11_3 s xs ys s2 xs2 ys2).fst.rows)) (Tr.chk (isL (encL (c11_3 s xs ys s2 xs2 ys2).fst.kids)) (Tr.chk (isRows xs2) (Tr.chk (isL ys2) (Tr.chk (lensT (Nd.node (c11_3 s xs ys s2 xs2 ys2).fst.lab (toRows (rows (c11_3 s xs ys s2 xs2 ys2).fst.rows)) (decL (encL (c11_3 s xs ys s2 xs2 ys2).fst.kids)))) (Tr.br (!sameT (Nd.node (c11_3 s xs ys s2 xs2 ys2).fst.lab (toRows (rows (c11_3 s xs ys s2 xs2 ys2).fst.rows)) (decL (encL (c11_3 s xs ys s2 xs2 ys2).fst.kids))) (Nd.node s2 (toRows xs2) (decL ys2))) (Tr.leaf (R.out [V.c (C.bool false)] [])) (Tr.br ((c11_3 s xs ys s2 xs2 ys2).snd.snd != 0) (Tr.leaf (R.out [V.c (C.bool false)] [])) (Tr.chk (isRows xs) (Tr.chk (isL ys) (Tr.chk (isRows xs2) (Tr.chk (isL ys2) (Tr.chk (decide ((entL (decL ys)).length < 1000000000)) (Tr.chk (decide ((entL (decL ys2)).length < 1000000000)) (Tr.chk (isRows xs) (Tr.chk (isL ys) (Tr.chk (isRows xs3) (Tr.chk (isL ys3) (Tr.chk (decide ((entL (decL ys)).length < 1000000000)) (Tr.chk (decide ((entL (decL ys3)).length < 1000000000)) (Tr.ls 0 (s11_0 (none) false (strs (c11_2 s xs ys s2 xs2 ys2 s3 xs3 ys3).snd.fst) ((c11_2 s xs ys s2 xs2 ys2 s3 xs3 ys3).snd.snd) (none) false (strs (c11_5 s xs ys s2 xs2 ys2 s3 xs3 ys3).snd.fst) (none) false (chgs (chgP (c11_1 s xs ys) (Nd.node s2 (toRows xs2) (decL ys2)))) (none) false (chgs (chgP (c11_1 s xs ys) (Nd.node s3 (toRows xs3) (decL ys3)))) (0) (0) ((c11_2 s xs ys s2 xs2 ys2 s3 xs3 ys3).fst.lab) (none) false (rows (c11_2 s xs ys s2 xs2 ys2 s3 xs3 ys3).fst.rows) (none) false (encL (c11_2 s xs ys s2 xs2 ys2 s3 xs3 ys3).fst.kids)))))))))))))))))))))))))))))))))))))))))))))))))))))))))))))))))))))))))))))))))))))))))))))) := by kernel_rfl
end Go.Proofs.YtgaabjmbnomimaaDoor
namespace Go.Proofs.YtgaabjmbnomimaaDoor
open Go Go.Ev
theorem f135 (l : List Row) (nl : Option Bool) (tt : Bool) : call E 135 [.c (.sl 5 nl tt (rows l))] [] = some ([V.b (shortR l)], []) := by
  have hct : (ctOf []).ok E := ctOf_nil
  refine call_of (E := E) (sh := sh) (ct := ctOf []) (na := 1) (m := 0) hct rfl rfl rfl rfl rfl rfl ?_
  rw [t135, rows_length, fd_br]
  unfold shortR
  by_cases c0 : (70 : Int) < l.length
  · rw [if_pos (by simpa using c0), fd_leaf]
    have : ¬ l.length ≤ 70 := by omega
    simp [this]
  rw [if_neg (by simpa using c0)]
  have c0' : l.length ≤ 70 := by omega
  simp only [c0', decide_true, Bool.true_and]
  refine fd_post hct (by kernel_rfl) rfl (list_post (p := p135) hct (b := b135_0) l.length (fun k (_ : Unit) => s135_0 nl tt (rows l) k) (fun k _ => ((l.drop k).all fun r => decide (r.v.s.length ≤ 100)) = (l.all fun r => decide (r.v.s.length ≤ 100))) _ ?_ ?_ 0 (Nat.zero_le _) () rfl)
  · rintro k _ hk hi
    rw [List.drop_eq_getElem_cons hk, List.all_cons] at hi
    rw [t135_0]
    simp only [ld_br, ld_chk', ld_leaf, fd_br, fd_chk', fd_leaf, decide_true, decide_eq_true_eq, if_true, Int.toNat_natCast, Int.natCast_nonneg, Int.ofNat_lt, Int.ofNat_le, Bool.false_eq_true, if_false, bne_iff_ne, beq_iff_eq, ne_eq, not_true_eq_false, not_false_eq_true, Bool.not_eq_true', decide_eq_false_iff_not, reduceCtorEq, rows_length, pcs_length, er_ok, er_ok', ep_ok, ep_ok', dr_er, dp_ep, isRows_rows, isPcs_pcs, toRows_rows, toPcs_pcs, rows_take, rows_drop, pcs_take, pcs_drop, rows_append, pcs_append, ints_length, isInts_ints, toInts_ints, ei_i, ei_ok, mk_headD, ints_take, ints_drop, ints_append, ints_snoc, ints_snoc', List.take_length, Nat.zero_add, Nat.le_refl, er_a, er_b, er_k, er_n, er_s, er_v, ep_a, ep_b, ep_hk, ep_hn, ep_hs, ep_wk, ep_wn, ep_ws, hk, rows_getD hk, wrap_succ (show k < 9223372036854775807 by omega)]
    by_cases c : (100 : Int) < l[k].v.s.length
    · have : ¬ l[k].v.s.length ≤ 100 := by omega
      simp only [this, decide_false, Bool.false_and] at hi
      exact .inr ⟨x135_0x0, by simp, by rw [k135_0x0, fd_leaf, ← hi], by rw [if_pos c]⟩
    · have : l[k].v.s.length ≤ 100 := by omega
      simp only [this, decide_true, Bool.true_and] at hi
      exact .inl ⟨(), hi, by rw [if_neg c]⟩
  · rintro _ hi
    rw [List.drop_length, List.all_nil] at hi
    rw [t135_0]
    exact ⟨x135_0x1 nl tt (rows l) l.length, by simp, by rw [k135_0x1, fd_leaf, ← hi], by simp only [ld_br, ld_chk', ld_leaf, fd_br, fd_chk', fd_leaf, decide_true, decide_eq_true_eq, if_true, Int.toNat_natCast, Int.natCast_nonneg, Int.ofNat_lt, Int.ofNat_le, Bool.false_eq_true, if_false, bne_iff_ne, beq_iff_eq, ne_eq, not_true_eq_false, not_false_eq_true, Bool.not_eq_true', decide_eq_false_iff_not, reduceCtorEq, rows_length, pcs_length, er_ok, er_ok', ep_ok, ep_ok', dr_er, dp_ep, isRows_rows, isPcs_pcs, toRows_rows, toPcs_pcs, rows_take, rows_drop, pcs_take, pcs_drop, rows_append, pcs_append, ints_length, isInts_ints, toInts_ints, ei_i, ei_ok, mk_headD, ints_take, ints_drop, ints_append, ints_snoc, ints_snoc', List.take_length, Nat.zero_add, Nat.le_refl, er_a, er_b, er_k, er_n, er_s, er_v, ep_a, ep_b, ep_hk, ep_hn, ep_hs, ep_wk, ep_wn, ep_ws, Int.lt_irrefl]⟩
theorem s135_ok : CSpecOk E 135 s135 := by
  intro a h cs vals h' he hc
  unfold s135 at he
  split at he <;> simp only [Option.some.injEq, Prod.mk.injEq, reduceCtorEq] at he
  rename_i nl tt xs
  obtain ⟨rfl, rfl, rfl⟩ := he
  simp only [allT, Bool.and_true, Bool.and_eq_true, decide_eq_true_eq] at hc
  obtain ⟨l, rfl⟩ := rows_ex hc
  rw [toRows_rows]
  exact f135 l nl tt
theorem f90 (dd : Nat) (ih : CSpecOk E 90 (s90 dd)) (s : List UInt8) (rn : Option Bool) (rt : Bool) (rs : List Row) (kn : Option Bool) (kt : Bool) (ks : List Nd) (n d : Int) (hd : depL ks < dd + 1) (h0 : 0 ≤ n) (h1 : n ≤ 1000) (h2 : -1000 ≤ d) (h3 : d ≤ 1000) (hl : lensT (.node s rs ks) = true) :
    call E 90 [.agg [.c (.str s), .c (.sl 5 rn rt (rows rs)), .c (.sl 3 kn kt (encL ks))], V.i n, V.i d] [] = some ([V.i (leftT (.node s rs ks) n d)], []) := by
  have hct : (ctOf [(135, s135), (90, s90 dd)]).ok E := ctOf_cons s135_ok (ctOf_cons ih ctOf_nil)
  refine call_of (E := E) (sh := sh) (ct := ctOf [(135, s135), (90, s90 dd)]) (na := 3) (m := 0) hct rfl rfl rfl rfl rfl rfl ?_
  show (p90 dd).fd ((p90 dd).ft _ _) = _
  rw [lensT] at hl
  simp only [Bool.and_eq_true, decide_eq_true_eq] at hl
  obtain ⟨⟨⟨l1, l2⟩, l4⟩, l3⟩ := hl
  have w0 : ((s.length : Int).tdiv 50) = ((s.length / 50 : Nat) : Int) := rfl
  have w1 : IntKind.wrap .i64 (IntKind.wrap .i64 (n - 1) - IntKind.wrap .i64 ((s.length : Int).tdiv 50)) = n - 1 - ((s.length / 50 : Nat) : Int) := by
    rw [w0, wrap_same (n := n - 1) (by omega) (by omega), wrap_same (n := ((s.length / 50 : Nat) : Int)) (by omega) (by omega), wrap_same (by omega) (by omega)]
  rw [t90, w1]
  simp only [nd_ok, nd_lab, nd_rows, nd_kids, encL_length, isL_enc, decL_enc, wrap_hd, hd_pos, ld_br, ld_chk', ld_leaf, fd_br, fd_chk', fd_leaf, decide_true, decide_eq_true_eq, if_true, Int.toNat_natCast, Int.natCast_nonneg, Int.ofNat_lt, Int.ofNat_le, Bool.false_eq_true, if_false, bne_iff_ne, beq_iff_eq, ne_eq, not_true_eq_false, not_false_eq_true, Bool.not_eq_true', decide_eq_false_iff_not, reduceCtorEq, rows_length, pcs_length, er_ok, er_ok', ep_ok, ep_ok', dr_er, dp_ep, isRows_rows, isPcs_pcs, toRows_rows, toPcs_pcs, rows_take, rows_drop, pcs_take, pcs_drop, rows_append, pcs_append, ints_length, isInts_ints, toInts_ints, ei_i, ei_ok, mk_headD, ints_take, ints_drop, ints_append, ints_snoc, ints_snoc', List.take_length, Nat.zero_add, Nat.le_refl, er_a, er_b, er_k, er_n, er_s, er_v, ep_a, ep_b, ep_hk, ep_hn, ep_hs, ep_wk, ep_wn, ep_ws]
  rw [leftT]
  have hm : n - 1 - ((s.length / 50 : Nat) : Int) ≤ 1000 := by omega
  generalize n - 1 - ((s.length / 50 : Nat) : Int) = m at *
  by_cases c1 : d < 1
  · simp [c1]
  rw [if_neg c1]
  by_cases c2 : m < 1
  · simp [c2]
  rw [if_neg c2]
  by_cases c3 : shortR rs = false
  · simp [c3]
  rw [if_neg c3, if_neg (show ¬ (d < 1 ∨ m < 1 ∨ shortR rs = false) from fun h => h.elim c1 fun h => h.elim c2 c3)]
  have hm0 : 0 ≤ m := by omega
  have w2 : IntKind.wrap .i64 (d - 1) = d - 1 := wrap_same (by omega) (by omega)
  refine fd_post hct (by kernel_rfl) rfl (list_post (p := p90 dd) hct (b := b90_0) ks.length (fun k (m : Int) => s90_0 s rn rt (rows rs) kn kt (encL ks) d m k) (fun k m' => leftL (ks.drop k) m' (d - 1) = leftL ks m (d - 1) ∧ 0 ≤ m' ∧ m' ≤ 1000) _ ?_ ?_ 0 (Nat.zero_le _) m ⟨rfl, hm0, hm⟩)
  · rintro k m' hk ⟨hi, hm1, hm2⟩
    rw [List.drop_eq_getElem_cons hk, leftL_cons] at hi
    have hkid : depL ks[k].kids < dd := by have := depL_kid (List.getElem_mem hk); omega
    rw [t90_0]
    by_cases c : 0 < m'
    · rw [if_pos c] at hi
      have hb := leftT_le ks[k] m' (d - 1) hm1
      refine .inl ⟨leftT ks[k] m' (d - 1), ⟨hi, hb.1, by omega⟩, ?_⟩
      simp only [nd_ok, nd_lab, nd_rows, nd_kids, encL_length, isL_enc, decL_enc, wrap_hd, hd_pos, ld_br, ld_chk', ld_leaf, fd_br, fd_chk', fd_leaf, decide_true, decide_eq_true_eq, if_true, Int.toNat_natCast, Int.natCast_nonneg, Int.ofNat_lt, Int.ofNat_le, Bool.false_eq_true, if_false, bne_iff_ne, beq_iff_eq, ne_eq, not_true_eq_false, not_false_eq_true, Bool.not_eq_true', decide_eq_false_iff_not, reduceCtorEq, rows_length, pcs_length, er_ok, er_ok', ep_ok, ep_ok', dr_er, dp_ep, isRows_rows, isPcs_pcs, toRows_rows, toPcs_pcs, rows_take, rows_drop, pcs_take, pcs_drop, rows_append, pcs_append, ints_length, isInts_ints, toInts_ints, ei_i, ei_ok, mk_headD, ints_take, ints_drop, ints_append, ints_snoc, ints_snoc', List.take_length, Nat.zero_add, Nat.le_refl, er_a, er_b, er_k, er_n, er_s, er_v, ep_a, ep_b, ep_hk, ep_hn, ep_hs, ep_wk, ep_wn, ep_ws, hk, encL_getD hk, nd_node, hkid, w2, hm1, hm2, c, show -1000 ≤ d - 1 by omega, show d - 1 ≤ 1000 by omega, lensL_mem l3 (List.getElem_mem hk), wrap_succ (show k < 9223372036854775807 by omega)]
    · rw [if_neg c] at hi
      exact .inr ⟨x90_0x0 s rn rt (rows rs) kn kt (encL ks) d m' k, by simp, by rw [k90_0x0, fd_leaf, ← hi], by simp only [nd_ok, nd_lab, nd_rows, nd_kids, encL_length, isL_enc, decL_enc, wrap_hd, hd_pos, ld_br, ld_chk', ld_leaf, fd_br, fd_chk', fd_leaf, decide_true, decide_eq_true_eq, if_true, Int.toNat_natCast, Int.natCast_nonneg, Int.ofNat_lt, Int.ofNat_le, Bool.false_eq_true, if_false, bne_iff_ne, beq_iff_eq, ne_eq, not_true_eq_false, not_false_eq_true, Bool.not_eq_true', decide_eq_false_iff_not, reduceCtorEq, rows_length, pcs_length, er_ok, er_ok', ep_ok, ep_ok', dr_er, dp_ep, isRows_rows, isPcs_pcs, toRows_rows, toPcs_pcs, rows_take, rows_drop, pcs_take, pcs_drop, rows_append, pcs_append, ints_length, isInts_ints, toInts_ints, ei_i, ei_ok, mk_headD, ints_take, ints_drop, ints_append, ints_snoc, ints_snoc', List.take_length, Nat.zero_add, Nat.le_refl, er_a, er_b, er_k, er_n, er_s, er_v, ep_a, ep_b, ep_hk, ep_hn, ep_hs, ep_wk, ep_wn, ep_ws, hk, c]⟩
  · rintro m' ⟨hi, hm1, hm2⟩
    rw [List.drop_length, leftL] at hi
    rw [t90_0]
    exact ⟨x90_0x0 s rn rt (rows rs) kn kt (encL ks) d m' ks.length, by simp, by rw [k90_0x0, fd_leaf, ← hi], by simp only [nd_ok, nd_lab, nd_rows, nd_kids, encL_length, isL_enc, decL_enc, wrap_hd, hd_pos, ld_br, ld_chk', ld_leaf, fd_br, fd_chk', fd_leaf, decide_true, decide_eq_true_eq, if_true, Int.toNat_natCast, Int.natCast_nonneg, Int.ofNat_lt, Int.ofNat_le, Bool.false_eq_true, if_false, bne_iff_ne, beq_iff_eq, ne_eq, not_true_eq_false, not_false_eq_true, Bool.not_eq_true', decide_eq_false_iff_not, reduceCtorEq, rows_length, pcs_length, er_ok, er_ok', ep_ok, ep_ok', dr_er, dp_ep, isRows_rows, isPcs_pcs, toRows_rows, toPcs_pcs, rows_take, rows_drop, pcs_take, pcs_drop, rows_append, pcs_append, ints_length, isInts_ints, toInts_ints, ei_i, ei_ok, mk_headD, ints_take, ints_drop, ints_append, ints_snoc, ints_snoc', List.take_length, Nat.zero_add, Nat.le_refl, er_a, er_b, er_k, er_n, er_s, er_v, ep_a, ep_b, ep_hk, ep_hn, ep_hs, ep_wk, ep_wn, ep_ws, Int.lt_irrefl]⟩
theorem s90_ok : ∀ d, CSpecOk E 90 (s90 d)
  | 0 => by
    intro a h cs vals h' he hc
    unfold s90 at he
    split at he <;> simp only [Option.some.injEq, Prod.mk.injEq, reduceCtorEq] at he
    obtain ⟨rfl, rfl, rfl⟩ := he
    simp [allT] at hc
  | d + 1 => by
    intro a h cs vals h' he hc
    unfold s90 at he
    split at he <;> simp only [Option.some.injEq, Prod.mk.injEq, reduceCtorEq] at he
    rename_i s rn rt xs kn kt ys n k
    obtain ⟨rfl, rfl, rfl⟩ := he
    simp only [allT, Bool.and_true, Bool.and_eq_true, decide_eq_true_eq] at hc
    obtain ⟨h1, h2, h3, h4, h5, h6, h7, h8⟩ := hc
    obtain ⟨rs, rfl⟩ := rows_ex h1
    obtain ⟨ks, rfl⟩ := isL_ex h2
    simp only [toRows_rows, decL_enc] at *
    exact f90 d (s90_ok d) s rn rt rs kn kt ks n k h3 h4 h5 h6 h7 h8
theorem f41 (t : Nd) (rn : Option Bool) (rt : Bool) (kn : Option Bool) (kt : Bool) (hl : lensT t = true) :
    call E 41 [.agg [.c (.str t.lab), .c (.sl 5 rn rt (rows t.rows)), .c (.sl 3 kn kt (encL t.kids))]] [] = some ([V.b (smallD t)], []) := by
  have hct : (ctOf [(90, s90 (depL t.kids + 1))]).ok E := ctOf_cons (s90_ok _) ctOf_nil
  refine call_of (E := E) (sh := sh) (ct := ctOf [(90, s90 (depL t.kids + 1))]) (na := 1) (m := 0) hct rfl rfl rfl rfl rfl rfl ?_
  show (p41 (depL t.kids + 1)).fd ((p41 (depL t.kids + 1)).ft _ _) = _
  rw [t41]
  simp only [nd_ok, nd_lab, nd_rows, nd_kids, encL_length, isL_enc, decL_enc, wrap_hd, hd_pos, ld_br, ld_chk', ld_leaf, fd_br, fd_chk', fd_leaf, decide_true, decide_eq_true_eq, if_true, Int.toNat_natCast, Int.natCast_nonneg, Int.ofNat_lt, Int.ofNat_le, Bool.false_eq_true, if_false, bne_iff_ne, beq_iff_eq, ne_eq, not_true_eq_false, not_false_eq_true, Bool.not_eq_true', decide_eq_false_iff_not, reduceCtorEq, rows_length, pcs_length, er_ok, er_ok', ep_ok, ep_ok', dr_er, dp_ep, isRows_rows, isPcs_pcs, toRows_rows, toPcs_pcs, rows_take, rows_drop, pcs_take, pcs_drop, rows_append, pcs_append, ints_length, isInts_ints, toInts_ints, ei_i, ei_ok, mk_headD, ints_take, ints_drop, ints_append, ints_snoc, ints_snoc', List.take_length, Nat.zero_add, Nat.le_refl, er_a, er_b, er_k, er_n, er_s, er_v, ep_a, ep_b, ep_hk, ep_hn, ep_hs, ep_wk, ep_wn, ep_ws, nd_node, show depL t.kids < depL t.kids + 1 by omega, hl, smallD]
theorem s41_ok : CSpecOk E 41 s41 := by
  intro a h cs vals h' he hc
  unfold s41 at he
  split at he <;> simp only [Option.some.injEq, Prod.mk.injEq, reduceCtorEq] at he
  rename_i s rn rt xs kn kt ys
  obtain ⟨rfl, rfl, rfl⟩ := he
  simp only [allT, Bool.and_true, Bool.and_eq_true, decide_eq_true_eq] at hc
  obtain ⟨h1, h2, h3⟩ := hc
  obtain ⟨rs, rfl⟩ := rows_ex h1
  obtain ⟨ks, rfl⟩ := isL_ex h2
  simp only [toRows_rows, decL_enc] at *
  exact f41 (.node s rs ks) rn rt kn kt h3
set_option maxRecDepth 100000 in
theorem f42 : call E 42 [] [] = some ([V.b true], []) := call_iff.2 ⟨200, by kernel_rfl⟩
theorem s42_ok : CSpecOk E 42 s42 := by
  intro a h cs vals h' he hc
  unfold s42 at he
  split at he <;> simp only [Option.some.injEq, Prod.mk.injEq, reduceCtorEq] at he
  obtain ⟨rfl, rfl, rfl⟩ := he
  exact f42
theorem s43_ok : CSpecOk E 43 s43 := by
  intro a h cs vals h' he hc
  unfold s43 at he
  split at he <;> simp only [Option.some.injEq, Prod.mk.injEq, reduceCtorEq] at he
  rename_i s xs ys s2 xs2 ys2 s3 xs3 ys3
  obtain ⟨rfl, rfl, rfl⟩ := he
  simp only [allT, Bool.and_true, Bool.and_eq_true, decide_eq_true_eq] at hc
  obtain ⟨h1, h2, h3, h4, h5, h6, h7, h8, h9⟩ := hc
  obtain ⟨rs, rfl⟩ := rows_ex h1
  obtain ⟨ks, rfl⟩ := isL_ex h2
  obtain ⟨rs2, rfl⟩ := rows_ex h3
  obtain ⟨ks2, rfl⟩ := isL_ex h4
  obtain ⟨rs3, rfl⟩ := rows_ex h5
  obtain ⟨ks3, rfl⟩ := isL_ex h6
  simp only [toRows_rows, decL_enc] at *
  exact f43 (.node s rs ks) (.node s2 rs2 ks2) (.node s3 rs3 ks3) h7 h8 h9
theorem s46_ok : CSpecOk E 46 s46 := by
  intro a h cs vals h' he hc
  unfold s46 at he
  split at he <;> simp only [Option.some.injEq, Prod.mk.injEq, reduceCtorEq] at he
  rename_i s xs ys s2 xs2 ys2
  obtain ⟨rfl, rfl, rfl⟩ := he
  simp only [allT, Bool.and_true, Bool.and_eq_true, decide_eq_true_eq] at hc
  obtain ⟨h1, h2, h3, h4, h7, h8⟩ := hc
  obtain ⟨rs, rfl⟩ := rows_ex h1
  obtain ⟨ks, rfl⟩ := isL_ex h2
  obtain ⟨rs2, rfl⟩ := rows_ex h3
  obtain ⟨ks2, rfl⟩ := isL_ex h4
  simp only [toRows_rows, decL_enc] at *
  exact f46 (.node s rs ks) (.node s2 rs2 ks2) h7 h8
end Go.Proofs.YtgaabjmbnomimaaDoor
namespace Go.Proofs.YtgaabjmbnomimaaDoor
open Go Go.Ev
mutual
theorem leftT_ent : ∀ (t : Nd) (n d : Int), 0 ≤ n → 0 < leftT t n d → ((entT t).length : Int) ≤ n - leftT t n d
  | .node lab rs ks, n, d, h0, h => by
    rw [leftT] at h ⊢
    split at h
    · omega
    · rename_i hc
      rw [if_neg hc]
      have := leftL_ent ks (n - 1 - ((lab.length / 50 : Nat) : Int)) (d - 1) (by omega) h
      have hl := entT_node [] lab rs ks
      rw [pre_nil] at hl
      rw [hl, List.length_append, pre_length]
      have ho : (ownE ([] ++ lab) rs).length ≤ 1 := by unfold ownE; split <;> simp
      omega
theorem leftL_ent : ∀ (l : List Nd) (n d : Int), 0 ≤ n → 0 < leftL l n d → ((entL l).length : Int) ≤ n - leftL l n d
  | [], n, d, h0, h => by rw [leftL, entL]; simp
  | t :: r, n, d, h0, h => by
    rw [leftL] at h ⊢
    split at h
    · rename_i hn
      rw [if_pos hn]
      have hle := leftT_le t n d h0
      have hpos : 0 < leftT t n d := by
        have := (leftL_le r (leftT t n d) d hle.1).2; omega
      have h1 := leftT_ent t n d h0 hpos
      have h2 := leftL_ent r (leftT t n d) d hle.1 h
      rw [entL, List.length_append]
      omega
    · omega
end
theorem small_ent {t : Nd} (h : smallD t = true) : (entL t.kids).length < 1000000000 := by
  simp only [smallD, decide_eq_true_eq] at h
  have h1 := leftT_ent t 200 60 (by omega) h
  have h2 : (entL t.kids).length ≤ (entT t).length := by rw [entT_eq]; simp
  omega
theorem chgs_getD {X : List Sd} {i : Nat} (h : i < X.length) : (chgs X).getD i [] = chgC X[i] := by simp [chgs, List.getD_eq_getElem?_getD, h]
theorem chgC_ok (s : Sd) : shOk [.str, .slx 5, .slx 5] (chgC s) = true := rfl
theorem chgC_p (s : Sd) (d : C) : ((chgC s).headD d).st = s.p := rfl
theorem chgC_b (s : Sd) (d : C) : ((chgC s).tail.tail.headD d).xs = rows s.b := rfl
theorem strs_getD {l : List (List UInt8)} {i : Nat} (h : i < l.length) : (strs l).getD i [] = [C.str l[i]] := by simp [strs, List.getD_eq_getElem?_getD, h]
theorem str_ok (p : List UInt8) : shOk [.str] [C.str p] = true := rfl
theorem str_hd (p : List UInt8) (d : C) : (([C.str p] : List C).headD d).st = p := rfl
theorem coll_drop {X Y : List Sd} {i : Nat} (h : i < X.length) : coll (X.drop i) Y = collR X[i] Y ++ coll (X.drop (i + 1)) Y := by
  rw [List.drop_eq_getElem_cons h]; rfl
theorem collR_drop {x : Sd} {Y : List Sd} {k : Nat} (h : k < Y.length) : collR x (Y.drop k) = (if (x.p = Y[k].p ∧ x.b ≠ Y[k].b) then [x.p] else []) ++ collR x (Y.drop (k + 1)) := by
  rw [List.drop_eq_getElem_cons h]
  unfold collR
  rw [List.filter_cons]
  by_cases c : x.p = Y[k].p ∧ x.b ≠ Y[k].b
  · rw [if_pos c]
    have : (decide (x.p = Y[k].p) && decide (x.b ≠ Y[k].b)) = true := by simp [c.1, c.2]
    rw [if_pos this]; rfl
  · rw [if_neg c]
    have : ¬ (decide (x.p = Y[k].p) && decide (x.b ≠ Y[k].b)) = true := by simpa using c
    rw [if_neg this]; rfl
theorem hct11 : (ctOf [(17, s17n), (26, s26), (27, s27), (28, s28), (41, s41), (42, s42), (43, s43), (46, s46)]).ok E :=
  ctOf_cons s17n_ok (ctOf_cons s26_ok (ctOf_cons s27_ok (ctOf_cons s28_ok (ctOf_cons s41_ok (ctOf_cons s42_ok (ctOf_cons s43_ok (ctOf_cons s46_ok ctOf_nil)))))))
section
variable (bad : List (List UInt8)) (e : Int) (X Y : List Sd) (m : Nd) (hbad : bad.length < 4294967296) (hX : X.length < 4294967296) (hY : Y.length < 4294967296) (hXb : ∀ s ∈ X, s.b.length ≤ 9223372036854775807)
abbrev st11 (n i : Nat) : Fr × Hp := s11_0 none false (strs bad) e none false (strs bad) none false (chgs X) none false (chgs Y) n i m.lab none false (rows m.rows) none false (encL m.kids)
abbrev sj11 (n i k : Nat) : Fr × Hp := s11_0_0 none false (strs bad) e none false (strs bad) none false (chgs X) none false (chgs Y) n i m.lab none false (rows m.rows) none false (encL m.kids) k
include hbad hX hY hXb
theorem inner11 {i : Nat} (hi : i < X.length) (A0 : List (List UInt8)) (h0 : bad = A0 ++ coll (X.drop i) Y) :
    p11.ld b11_0 (Tr.ls 0 (sj11 bad e X Y m A0.length i 0)) = some (R.s (st11 bad e X Y m (A0 ++ collR X[i] Y).length (i + 1))) := by
  rw [coll_drop hi] at h0
  refine ld_post hct11 (by kernel_rfl) rfl (list_post (p := p11) hct11 (b := b11_0_0) Y.length (fun k (A : List (List UInt8)) => sj11 bad e X Y m A.length i k)
    (fun k A => bad = A ++ collR X[i] (Y.drop k) ++ coll (X.drop (i + 1)) Y ∧ A ++ collR X[i] (Y.drop k) = A0 ++ collR X[i] Y) _ ?_ ?_ 0 (Nat.zero_le _) A0 ⟨by rw [List.drop_zero, List.append_assoc]; exact h0, by rw [List.drop_zero]⟩)
  · rintro k A hk ⟨h1, h2⟩
    rw [collR_drop hk] at h1 h2
    have hxb := hXb _ (List.getElem_mem hi)
    left
    by_cases c : X[i].p = Y[k].p ∧ X[i].b ≠ Y[k].b
    · rw [if_pos c] at h1 h2
      have hA : A.length < bad.length := by rw [h1]; simp
      have hAk : bad[A.length] = X[i].p := by
        have : bad[A.length]? = some X[i].p := by
          rw [h1, List.append_assoc, List.getElem?_append_right (Nat.le_refl _), Nat.sub_self, List.singleton_append, List.cons_append, List.getElem?_cons_zero]
        obtain ⟨_, h⟩ := List.getElem?_eq_some_iff.1 this
        exact h
      refine ⟨A ++ [X[i].p], ⟨by rw [h1]; simp, by rw [← h2]; simp⟩, ?_⟩
      rw [t11_0_0]
      have hn : ¬ ((bad.length : Int) ≤ (A.length : Nat)) := by omega
      simp only [ld_br, ld_chk', ld_leaf, fd_br, fd_chk', fd_leaf, decide_true, decide_eq_true_eq, if_true, Int.toNat_natCast, Int.natCast_nonneg, Int.ofNat_lt, Int.ofNat_le, Bool.false_eq_true, if_false, bne_iff_ne, beq_iff_eq, ne_eq, not_true_eq_false, not_false_eq_true, Bool.not_eq_true', decide_eq_false_iff_not, reduceCtorEq, rows_length, pcs_length, er_ok, er_ok', ep_ok, ep_ok', dr_er, dp_ep, isRows_rows, isPcs_pcs, toRows_rows, toPcs_pcs, rows_take, rows_drop, pcs_take, pcs_drop, rows_append, pcs_append, ints_length, isInts_ints, toInts_ints, ei_i, ei_ok, mk_headD, ints_take, ints_drop, ints_append, ints_snoc, ints_snoc', List.take_length, Nat.zero_add, Nat.le_refl, er_a, er_b, er_k, er_n, er_s, er_v, ep_a, ep_b, ep_hk, ep_hn, ep_hs, ep_wk, ep_wn, ep_ws, chgs_length, strs_length, hk, hi, hA, chgs_getD hk, chgs_getD hi, strs_getD hA, chgC_ok, chgC_p, chgC_b, str_ok, str_hd, hxb, hAk, c.1, c.2, hn, beq_self_eq_true, Bool.not_true,
        wrap_succ (show A.length < 9223372036854775807 by omega), wrap_succ (show k < 9223372036854775807 by omega), List.length_append, List.length_singleton]
    · rw [if_neg c] at h1 h2
      refine ⟨A, ⟨h1, h2⟩, ?_⟩
      rw [t11_0_0]
      by_cases c1 : X[i].p = Y[k].p
      · have c2 : X[i].b = Y[k].b := by
          by_cases c2 : X[i].b = Y[k].b
          · exact c2
          · exact (c ⟨c1, c2⟩).elim
        have hyb : Y[k].b.length ≤ 9223372036854775807 := c2 ▸ hxb
        simp only [ld_br, ld_chk', ld_leaf, fd_br, fd_chk', fd_leaf, decide_true, decide_eq_true_eq, if_true, Int.toNat_natCast, Int.natCast_nonneg, Int.ofNat_lt, Int.ofNat_le, Bool.false_eq_true, if_false, bne_iff_ne, beq_iff_eq, ne_eq, not_true_eq_false, not_false_eq_true, Bool.not_eq_true', decide_eq_false_iff_not, reduceCtorEq, rows_length, pcs_length, er_ok, er_ok', ep_ok, ep_ok', dr_er, dp_ep, isRows_rows, isPcs_pcs, toRows_rows, toPcs_pcs, rows_take, rows_drop, pcs_take, pcs_drop, rows_append, pcs_append, ints_length, isInts_ints, toInts_ints, ei_i, ei_ok, mk_headD, ints_take, ints_drop, ints_append, ints_snoc, ints_snoc', List.take_length, Nat.zero_add, Nat.le_refl, er_a, er_b, er_k, er_n, er_s, er_v, ep_a, ep_b, ep_hk, ep_hn, ep_hs, ep_wk, ep_wn, ep_ws, chgs_length, hk, hi, chgs_getD hk, chgs_getD hi, chgC_ok, chgC_p, chgC_b, hxb, hyb, c1, c2, beq_self_eq_true, Bool.not_true, wrap_succ (show k < 9223372036854775807 by omega)]
      · simp only [ld_br, ld_chk', ld_leaf, fd_br, fd_chk', fd_leaf, decide_true, decide_eq_true_eq, if_true, Int.toNat_natCast, Int.natCast_nonneg, Int.ofNat_lt, Int.ofNat_le, Bool.false_eq_true, if_false, bne_iff_ne, beq_iff_eq, ne_eq, not_true_eq_false, not_false_eq_true, Bool.not_eq_true', decide_eq_false_iff_not, reduceCtorEq, rows_length, pcs_length, er_ok, er_ok', ep_ok, ep_ok', dr_er, dp_ep, isRows_rows, isPcs_pcs, toRows_rows, toPcs_pcs, rows_take, rows_drop, pcs_take, pcs_drop, rows_append, pcs_append, ints_length, isInts_ints, toInts_ints, ei_i, ei_ok, mk_headD, ints_take, ints_drop, ints_append, ints_snoc, ints_snoc', List.take_length, Nat.zero_add, Nat.le_refl, er_a, er_b, er_k, er_n, er_s, er_v, ep_a, ep_b, ep_hk, ep_hn, ep_hs, ep_wk, ep_wn, ep_ws, chgs_length, hk, hi, chgs_getD hk, chgs_getD hi, chgC_ok, chgC_p, chgC_b, c1, wrap_succ (show k < 9223372036854775807 by omega)]
  · rintro A ⟨h1, h2⟩
    rw [List.drop_length, show collR X[i] [] = [] from rfl, List.append_nil] at h2
    subst h2
    refine ⟨x11_0_0x1 none false (strs bad) e none false (strs bad) none false (chgs X) none false (chgs Y) ((A0 ++ collR X[i] Y).length : Nat) i m.lab none false (rows m.rows) none false (encL m.kids) Y.length, by simp, ?_, ?_⟩
    · rw [k11_0_0x1, ld_leaf, wrap_succ (show i < 9223372036854775807 by omega)]
    · rw [t11_0_0]
      simp only [ld_br, ld_chk', ld_leaf, fd_br, fd_chk', fd_leaf, decide_true, decide_eq_true_eq, if_true, Int.toNat_natCast, Int.natCast_nonneg, Int.ofNat_lt, Int.ofNat_le, Bool.false_eq_true, if_false, bne_iff_ne, beq_iff_eq, ne_eq, not_true_eq_false, not_false_eq_true, Bool.not_eq_true', decide_eq_false_iff_not, reduceCtorEq, rows_length, pcs_length, er_ok, er_ok', ep_ok, ep_ok', dr_er, dp_ep, isRows_rows, isPcs_pcs, toRows_rows, toPcs_pcs, rows_take, rows_drop, pcs_take, pcs_drop, rows_append, pcs_append, ints_length, isInts_ints, toInts_ints, ei_i, ei_ok, mk_headD, ints_take, ints_drop, ints_append, ints_snoc, ints_snoc', List.take_length, Nat.zero_add, Nat.le_refl, er_a, er_b, er_k, er_n, er_s, er_v, ep_a, ep_b, ep_hk, ep_hn, ep_hs, ep_wk, ep_wn, ep_ws, chgs_length, Int.lt_irrefl]
theorem outer11 (h0 : bad = coll X Y) : ∃ x, x = x11_0x1 none false (strs bad) e none false (strs bad) none false (chgs X) none false (chgs Y) bad.length X.length m.lab none false (rows m.rows) none false (encL m.kids) ∧ p11.Loops b11_0 (st11 bad e X Y m 0 0) x := by
  refine list_post (p := p11) hct11 (b := b11_0) X.length (fun i (A : List (List UInt8)) => st11 bad e X Y m A.length i) (fun i A => bad = A ++ coll (X.drop i) Y) _ ?_ ?_ 0 (Nat.zero_le _) [] (by simpa using h0)
  · intro i A hi hA
    left
    have := coll_drop (Y := Y) hi
    refine ⟨A ++ collR X[i] Y, by rw [List.append_assoc, ← this]; exact hA, ?_⟩
    rw [t11_0, ld_br, if_pos (by rw [chgs_length]; simpa using hi)]
    exact inner11 bad e X Y m hbad hX hY hXb hi A hA
  · intro A hA
    rw [List.drop_length, show coll [] Y = [] from rfl, List.append_nil] at hA
    subst hA
    refine ⟨_, ?_, rfl, ?_⟩
    · simp
    · rw [t11_0]
      simp only [ld_br, ld_chk', ld_leaf, fd_br, fd_chk', fd_leaf, decide_true, decide_eq_true_eq, if_true, Int.toNat_natCast, Int.natCast_nonneg, Int.ofNat_lt, Int.ofNat_le, Bool.false_eq_true, if_false, bne_iff_ne, beq_iff_eq, ne_eq, not_true_eq_false, not_false_eq_true, Bool.not_eq_true', decide_eq_false_iff_not, reduceCtorEq, rows_length, pcs_length, er_ok, er_ok', ep_ok, ep_ok', dr_er, dp_ep, isRows_rows, isPcs_pcs, toRows_rows, toPcs_pcs, rows_take, rows_drop, pcs_take, pcs_drop, rows_append, pcs_append, ints_length, isInts_ints, toInts_ints, ei_i, ei_ok, mk_headD, ints_take, ints_drop, ints_append, ints_snoc, ints_snoc', List.take_length, Nat.zero_add, Nat.le_refl, er_a, er_b, er_k, er_n, er_s, er_v, ep_a, ep_b, ep_hk, ep_hn, ep_hs, ep_wk, ep_wn, ep_ws, chgs_length, Int.lt_irrefl]
omit hbad hX hXb
theorem loop2_11 (hm : ∀ s ∈ Y, getR m s.p = s.b) (hl : ∀ q, (getR m q).length ≤ 9223372036854775807) : p11.fd (Tr.ls 2 (s11_2 none false (chgs Y) m.lab none false (rows m.rows) none false (encL m.kids) 0)) = some (.out [V.b true] []) := by
  refine fd_post hct11 (by kernel_rfl) rfl (list_post (p := p11) hct11 (b := b11_2) Y.length (fun i (_ : Unit) => s11_2 none false (chgs Y) m.lab none false (rows m.rows) none false (encL m.kids) i) (fun _ _ => True) _ ?_ ?_ 0 (Nat.zero_le _) () trivial)
  · intro i _ hi _
    refine .inl ⟨(), trivial, ?_⟩
    rw [t11_2]
    have hg := hm _ (List.getElem_mem hi)
    have hgl := hl Y[i].p
    rw [hg] at hgl
    simp only [nd_ok, nd_lab, nd_rows, nd_kids, encL_length, isL_enc, decL_enc, wrap_hd, hd_pos, ld_br, ld_chk', ld_leaf, fd_br, fd_chk', fd_leaf, decide_true, decide_eq_true_eq, if_true, Int.toNat_natCast, Int.natCast_nonneg, Int.ofNat_lt, Int.ofNat_le, Bool.false_eq_true, if_false, bne_iff_ne, beq_iff_eq, ne_eq, not_true_eq_false, not_false_eq_true, Bool.not_eq_true', decide_eq_false_iff_not, reduceCtorEq, rows_length, pcs_length, er_ok, er_ok', ep_ok, ep_ok', dr_er, dp_ep, isRows_rows, isPcs_pcs, toRows_rows, toPcs_pcs, rows_take, rows_drop, pcs_take, pcs_drop, rows_append, pcs_append, ints_length, isInts_ints, toInts_ints, ei_i, ei_ok, mk_headD, ints_take, ints_drop, ints_append, ints_snoc, ints_snoc', List.take_length, Nat.zero_add, Nat.le_refl, er_a, er_b, er_k, er_n, er_s, er_v, ep_a, ep_b, ep_hk, ep_hn, ep_hs, ep_wk, ep_wn, ep_ws, chgs_length, hi, chgs_getD hi, chgC_ok, chgC_p, chgC_b, Nd.eta, hg, hgl, Bool.not_true, wrap_succ (show i < 9223372036854775807 by omega)]
  · intro _ _
    refine ⟨x11_2x1 none false (chgs Y) m.lab none false (rows m.rows) none false (encL m.kids) Y.length, by simp, by rw [k11_2x1, fd_leaf], ?_⟩
    rw [t11_2]
    simp only [nd_ok, nd_lab, nd_rows, nd_kids, encL_length, isL_enc, decL_enc, wrap_hd, hd_pos, ld_br, ld_chk', ld_leaf, fd_br, fd_chk', fd_leaf, decide_true, decide_eq_true_eq, if_true, Int.toNat_natCast, Int.natCast_nonneg, Int.ofNat_lt, Int.ofNat_le, Bool.false_eq_true, if_false, bne_iff_ne, beq_iff_eq, ne_eq, not_true_eq_false, not_false_eq_true, Bool.not_eq_true', decide_eq_false_iff_not, reduceCtorEq, rows_length, pcs_length, er_ok, er_ok', ep_ok, ep_ok', dr_er, dp_ep, isRows_rows, isPcs_pcs, toRows_rows, toPcs_pcs, rows_take, rows_drop, pcs_take, pcs_drop, rows_append, pcs_append, ints_length, isInts_ints, toInts_ints, ei_i, ei_ok, mk_headD, ints_take, ints_drop, ints_append, ints_snoc, ints_snoc', List.take_length, Nat.zero_add, Nat.le_refl, er_a, er_b, er_k, er_n, er_s, er_v, ep_a, ep_b, ep_hk, ep_hn, ep_hs, ep_wk, ep_wn, ep_ws, chgs_length, Int.lt_irrefl]
include hX
theorem loop1_11 (hm : ∀ s ∈ X, getR m s.p = s.b) (hm2 : ∀ s ∈ Y, getR m s.p = s.b) (hl : ∀ q, (getR m q).length ≤ 9223372036854775807) : p11.fd (Tr.ls 1 (s11_1 none false (chgs X) none false (chgs Y) m.lab none false (rows m.rows) none false (encL m.kids) 0)) = some (.out [V.b true] []) := by
  refine fd_post hct11 (by kernel_rfl) rfl (list_post (p := p11) hct11 (b := b11_1) X.length (fun i (_ : Unit) => s11_1 none false (chgs X) none false (chgs Y) m.lab none false (rows m.rows) none false (encL m.kids) i) (fun _ _ => True) _ ?_ ?_ 0 (Nat.zero_le _) () trivial)
  · intro i _ hi _
    refine .inl ⟨(), trivial, ?_⟩
    rw [t11_1]
    have hg := hm _ (List.getElem_mem hi)
    have hgl := hl X[i].p
    rw [hg] at hgl
    simp only [nd_ok, nd_lab, nd_rows, nd_kids, encL_length, isL_enc, decL_enc, wrap_hd, hd_pos, ld_br, ld_chk', ld_leaf, fd_br, fd_chk', fd_leaf, decide_true, decide_eq_true_eq, if_true, Int.toNat_natCast, Int.natCast_nonneg, Int.ofNat_lt, Int.ofNat_le, Bool.false_eq_true, if_false, bne_iff_ne, beq_iff_eq, ne_eq, not_true_eq_false, not_false_eq_true, Bool.not_eq_true', decide_eq_false_iff_not, reduceCtorEq, rows_length, pcs_length, er_ok, er_ok', ep_ok, ep_ok', dr_er, dp_ep, isRows_rows, isPcs_pcs, toRows_rows, toPcs_pcs, rows_take, rows_drop, pcs_take, pcs_drop, rows_append, pcs_append, ints_length, isInts_ints, toInts_ints, ei_i, ei_ok, mk_headD, ints_take, ints_drop, ints_append, ints_snoc, ints_snoc', List.take_length, Nat.zero_add, Nat.le_refl, er_a, er_b, er_k, er_n, er_s, er_v, ep_a, ep_b, ep_hk, ep_hn, ep_hs, ep_wk, ep_wn, ep_ws, chgs_length, hi, chgs_getD hi, chgC_ok, chgC_p, chgC_b, Nd.eta, hg, hgl, Bool.not_true, wrap_succ (show i < 9223372036854775807 by omega)]
  · intro _ _
    refine ⟨x11_1x1 none false (chgs X) none false (chgs Y) m.lab none false (rows m.rows) none false (encL m.kids) X.length, by simp, by rw [k11_1x1]; exact loop2_11 Y m hY hm2 hl, ?_⟩
    rw [t11_1]
    simp only [nd_ok, nd_lab, nd_rows, nd_kids, encL_length, isL_enc, decL_enc, wrap_hd, hd_pos, ld_br, ld_chk', ld_leaf, fd_br, fd_chk', fd_leaf, decide_true, decide_eq_true_eq, if_true, Int.toNat_natCast, Int.natCast_nonneg, Int.ofNat_lt, Int.ofNat_le, Bool.false_eq_true, if_false, bne_iff_ne, beq_iff_eq, ne_eq, not_true_eq_false, not_false_eq_true, Bool.not_eq_true', decide_eq_false_iff_not, reduceCtorEq, rows_length, pcs_length, er_ok, er_ok', ep_ok, ep_ok', dr_er, dp_ep, isRows_rows, isPcs_pcs, toRows_rows, toPcs_pcs, rows_take, rows_drop, pcs_take, pcs_drop, rows_append, pcs_append, ints_length, isInts_ints, toInts_ints, ei_i, ei_ok, mk_headD, ints_take, ints_drop, ints_append, ints_snoc, ints_snoc', List.take_length, Nat.zero_add, Nat.le_refl, er_a, er_b, er_k, er_n, er_s, er_v, ep_a, ep_b, ep_hk, ep_hn, ep_hs, ep_wk, ep_wn, ep_ws, chgs_length, Int.lt_irrefl]
end
theorem chgP_len {a b : Nd} (ha : (entL a.kids).length < 1000000000) (hb : (entL b.kids).length < 1000000000) : (chgP a b).length < 4294967296 := by
  unfold chgP
  split
  · have h1 : (chgT a b).length ≤ (S2 a b).length := List.length_filter_le _ _
    have h2 : (S2 a b).length ≤ (entP a).length + (entP b).length + 0 + 1 := sidesF_len _ _ _ _
    have := entP_len a ha; have := entP_len b hb
    omega
  · simp
theorem mergeP_bad (a b c : Nd) (h : okR a = true ∧ okR b = true ∧ okR c = true) : (mergeP a b c).2.1 = badT a b c := by
  rw [mergeP, if_pos h]
  split
  · rename_i k; rw [k]
  · rfl
theorem mergeP_lens (a b c : Nd) : lensT (mergeP a b c).1 = true := by
  unfold mergeP
  split
  · split
    · exact okR_lens (mergeT_ok a b c)
    · rfl
  · rfl
theorem mergeP_swap (a b c : Nd) : mergeP a c b = mergeP a b c := by
  unfold mergeP
  rw [merge_swap, bad_swap]
  have : (okR a = true ∧ okR c = true ∧ okR b = true) ↔ (okR a = true ∧ okR b = true ∧ okR c = true) := ⟨fun ⟨h1, h2, h3⟩ => ⟨h1, h3, h2⟩, fun ⟨h1, h2, h3⟩ => ⟨h1, h3, h2⟩⟩
  simp only [this]
theorem chg_blen {a b : Nd} : ∀ s ∈ chgT a b, s.b.length ≤ 9223372036854775807 := fun s hs => by
  rw [(chg_mem hs).2.1, getR_P]; exact right_len63 (look_right (gd_entP b) _)
theorem getR_len (m : Nd) (q : List UInt8) : (getR m q).length ≤ 9223372036854775807 := by rw [getR_P]; exact right_len63 (look_right (gd_entP m) _)
theorem after11 {a b c : Nd} (ha : okR a = true) (hb : okR b = true) (hc : okR c = true) (la : (entL a.kids).length < 1000000000) (lb : (entL b.kids).length < 1000000000) (lc : (entL c.kids).length < 1000000000) :
    p11.fd (Tr.ls 0 (st11 (badT a b c) (mergeP a b c).2.2 (chgT a b) (chgT a c) (mergeP a b c).1 0 0)) = some (.out [V.b true] []) := by
  have hbl : (badT a b c).length < 4294967296 := by have := badT_len a b c la lb lc; omega
  have hX := chgP_len la lb
  have hY := chgP_len la lc
  rw [chgP, if_pos ⟨ha, hb⟩] at hX
  rw [chgP, if_pos ⟨ha, hc⟩] at hY
  obtain ⟨_, rfl, h⟩ := outer11 (badT a b c) (mergeP a b c).2.2 (chgT a b) (chgT a c) (mergeP a b c).1 hbl hX hY chg_blen (coll_bad a b c).symm
  refine fd_post hct11 (by kernel_rfl) rfl ⟨_, ?_, h⟩
  rw [k11_0x1, strs_length]
  have h1 : (((badT a b c).length : Int) != ((badT a b c).length : Int)) = false := by simp
  rw [fd_br, h1, if_neg (by simp)]
  by_cases k : badT a b c = []
  · have e1 : mergeP a b c = (mergeT a b c, [], 0) := by rw [mergeP, if_pos ⟨ha, hb, hc⟩, if_pos k]
    rw [e1, k]
    refine (show p11.fd _ = p11.fd (Tr.ls 1 (s11_1 none false (chgs (chgT a b)) none false (chgs (chgT a c)) (mergeT a b c).lab none false (rows (mergeT a b c).rows) none false (encL (mergeT a b c).kids) 0)) from ?_).trans (loop1_11 (chgT a b) (chgT a c) (mergeT a b c) hX hY (fun s hs => ?_) (fun s hs => ?_) (getR_len _))
    · rw [fd_br, fd_br]; rfl
    · obtain ⟨m1, m2, m3, _⟩ := chg_mem hs
      rw [(merge_has k (q := s.p)).1 (by rw [← m1, ← m2]; exact m3), m2]
    · obtain ⟨m1, m2, m3, _⟩ := chg_mem hs
      rw [(merge_has k (q := s.p)).2 (by rw [← m1, ← m2]; exact m3), m2]
  · have e1 : mergeP a b c = (nd0, badT a b c, 19) := by rw [mergeP, if_pos ⟨ha, hb, hc⟩, if_neg k]
    rw [e1]
    have h2 : ((((badT a b c).length : Nat) : Int) == 0) = false := by
      have := List.length_pos_iff.2 k
      rw [beq_eq_false_iff_ne]; omega
    rw [fd_br, fd_br, fd_leaf, h2]; rfl
/-- DeltaSides. -/
theorem f11 (a b c : Nd) (ha : lensT a = true) (hb : lensT b = true) (hc : lensT c = true) : call E 11 [VT a, VT b, VT c] [] = some ([V.b true], []) := by
  refine call_of (E := E) (sh := sh) (ct := ctOf [(17, s17n), (26, s26), (27, s27), (28, s28), (41, s41), (42, s42), (43, s43), (46, s46)]) (na := 3) (m := 0) hct11 rfl rfl rfl rfl rfl rfl ?_
  show p11.fd (p11.ft [VT a, VT b, VT c] []) = some (.out _ _)
  rw [show p11.ft [VT a, VT b, VT c] [] = _ from t11 _ _ _ _ _ _ _ _ _]
  simp only [c11_1, c11_2, c11_3, c11_4, c11_5, toRows_rows, Nd.eta, isRows_rows, isL_enc, decL_enc, ha, hb, hc, fd_br, fd_chk', fd_leaf, if_true, checkT_ne, mergeP_lens, Bool.not_eq_true']
  by_cases s1 : smallD a = false
  · rw [if_pos s1]
  rw [if_neg s1]
  by_cases s2 : smallD b = false
  · rw [if_pos s2]
  rw [if_neg s2]
  by_cases s3 : smallD c = false
  · rw [if_pos s3]
  rw [if_neg s3]
  by_cases o1 : okR a = false
  · rw [if_pos o1]
  rw [if_neg o1]
  by_cases o2 : okR b = false
  · rw [if_pos o2]
  rw [if_neg o2]
  by_cases o3 : okR c = false
  · rw [if_pos o3]
  rw [if_neg o3]
  rw [Bool.not_eq_false] at s1 s2 s3 o1 o2 o3
  have la := small_ent s1
  have lb := small_ent s2
  have lc := small_ent s3
  have m3 : mergeP a a c = (c, [], 0) := by rw [mergeP, if_pos ⟨o1, o1, o3⟩, if_pos (bad_base a c), merge_base o3]
  have m4 : mergeP a b b = (b, [], 0) := by rw [mergeP, if_pos ⟨o1, o2, o2⟩, if_pos (bad_same a b), merge_same o2]
  have hgo := after11 o1 o2 o3 la lb lc
  simp only [mergeP_swap a b c, m3, m4, sameT_refl, la, lb, lc, hb, hc, decide_true, if_true, Bool.true_eq_false, if_false, bne_self_eq_false, Bool.false_eq_true, mergeP_bad a b c ⟨o1, o2, o3⟩, chgP, if_pos (And.intro o1 o2), if_pos (And.intro o1 o3)]
  exact hgo
end Go.Proofs.YtgaabjmbnomimaaDoor
namespace Go.Proofs.YtgaabjmbnomimaaDoor
open Go Go.Ev
theorem l11 (a b c : Lt) : call E 11 [VT a.t, VT b.t, VT c.t] [] = some ([V.b true], []) := f11 a.t b.t c.t a.ok b.ok c.ok
end Go.Proofs.YtgaabjmbnomimaaDoor
