/-
  Radix trees: place, Clone, below; Radix trees: trees, written by a program: Check, Get; the reference's Right, Entries, Get; what is small; Radix trees: Check, Get; the reference's Right; Radix trees: the reference's entries and Get; how many nodes are left; Radix trees: putting: trees, written by a program: copied, shared, split, place over an own row; Radix trees, plain: what putting rows under a path makes of a tree, and what that has; Radix trees, plain: the tree that the reference makes of a right tree's entries is that tree; Radix trees: putting: copied, shared, split, place over an own .
-/
import Derived.Sort.AssemblyPlain
import Derived.Test.YtgaabjmbnomimaaDoorProg
import Derived.Shelf.Unicode.DecodeAny
import Derived.Shelf.Small.Strs
import Derived.Shelf.Small.Wraps
import Derived.Shelf.SlSortCmp.WholeK
import Derived.Tactics
import Derived.Tactics2
import Derived.Defers
import Derived.Recover
import Derived.Laws.Pointers
import Derived.Laws.RangeString
import Derived.WalkKit
import Derived.WalkSmall
import Derived.LoopTactic
import Derived.Lib.OthersKept
import Derived.WalkSpells
import Derived.Deep.LoopGhost
import Derived.BigQuiet
import Derived.Deep.QuietTactic
import Derived.Lib.TrimUEq
import Derived.Lib.ByteType
import Derived.RangeFuncRecord
import Derived.Shelf.SlSortCmp.InsertionK
import Derived.Test.YtgaabjmbnomimaaDoorRows
import Derived.ProofKit
import Derived.OpenShut
import Derived.Below
import Derived.Deep.DeepHandedRow
import Derived.Lib.LaidU8T
import Derived.PinnedBridge
import Derived.Test.YtgaabjmbnomimaaDoorEvK
import Derived.Test.YtgaabjmbnomimaaDoorARunD
set_option linter.all false
namespace Go.Proofs.YtgaabjmbnomimaaDoor
open Go Go.Ev
theorem nd_ok (t : Nd) : shOk [Sk.str, Sk.sl 5, Sk.sl 3] t.enc = true := by rw [Nd.enc_eq]; rfl
theorem nd_lab (t : Nd) (d : C) : ((t.enc).headD d).st = t.lab := by rw [Nd.enc_eq]; rfl
theorem nd_rows (t : Nd) (d : C) : ((t.enc).tail.headD d).xs = rows t.rows := by rw [Nd.enc_eq]; rfl
theorem nd_kids (t : Nd) (d : C) : ((t.enc).tail.tail.headD d).xs = encL t.kids := by rw [Nd.enc_eq]; rfl
theorem hd_getD (s : Bys) : (((s.getD (Int.toNat 0) 0).toNat : Nat) : Int) = hdB s := by cases s <;> rfl
theorem wrap_hd (s : Bys) : IntKind.wrap .i64 (((s.getD (Int.toNat 0) 0).toNat : Nat) : Int) = hdB s := by
 rw [hd_getD]
 have := hdB_lt s
 exact wrap_same (by omega) (by omega)
theorem hd_pos (s : Bys) : (Int.toNat 0 < s.length) = (s ≠ []) := by
 cases s <;> simp
theorem f124 (s : Bys) (xs ys : LLC) (b : Int) (hs : s ≠ []) (h0 : 0 <= b) (h1 : b <= 255) : call E 124 [.agg [.c (.str s), .c (.sl 5 none false xs), .c (.sl 3 none false ys)], .c (.int .u8 b)] [] = some ([V.i (hdB s - b)], []) := by
 refine call_of (E := E) (sh := sh) (ct := ctOf []) (na := 2) (m := 0) ctOf_nil rfl rfl rfl rfl rfl rfl ?_
 rw [t124]
 have h2 := hdB_lt s
 have w1 : IntKind.wrap .i64 b = b := wrap_same (by omega) (by omega)
 have w2 : IntKind.wrap .i64 (hdB s - b) = hdB s - b := wrap_same (by omega) (by omega)
 simp only [wrap_hd, hd_pos, fd_chk', fd_leaf, decide_true, if_true, ne_eq, not_false_eq_true, w1, w2, hs]
theorem s124_ok : CSpecOk E 124 s124 := by
 intro a h cs vals h' he hc
 unfold s124 at he
 split at he <;> simp only [Option.some.injEq, Prod.mk.injEq, reduceCtorEq] at he
 rename_i s xs ys b
 obtain ⟨rfl, rfl, rfl⟩ := he
 simp only [allT, Bool.and_true, Bool.and_eq_true, decide_eq_true_eq] at hc
 obtain ⟨h1, h2, h3⟩ := hc
 exact f124 s xs ys b h1 h2 h3
theorem labs_mem {l : List Nd} (h : labsOk l = true) {k : Nat} (hk : k < l.length) : l[k].lab ≠ [] := by
 have := List.all_eq_true.1 h l[k] (List.getElem_mem hk)
 simpa using this
def s68 : CSpec := fun a h => match a, h with
 | [.c (.sl 5 nl tt xs)], [] => some ([decide (xs.length < 4294967296), decide (nl ≠ some true \/ xs = [])], [.c (.sl 5 none false xs)], [])
 | _, _ => none
theorem s68_ok : CSpecOk E 68 s68 := by
 intro a h cs vals h' he hc
 unfold s68 at he
 split at he <;> simp only [Option.some.injEq, Prod.mk.injEq, reduceCtorEq] at he
 rename_i nl tt xs
 obtain ⟨rfl, rfl, rfl⟩ := he
 simp only [allT, Bool.and_true, Bool.and_eq_true, decide_eq_true_eq] at hc
 obtain ⟨hc, hn⟩ := hc
 have some_false : ∀ tt, call E 68 [.c (.sl 5 (some false) tt xs)] [] = some ([.c (.sl 5 none false xs)], []) := fun tt => by
   refine call_of (E := E) (sh := sh) (ct := ctOf []) (na := 1) (m := 0) ctOf_nil rfl rfl rfl rfl rfl rfl ?_
   rw [t68]
   simp [fd_br, fd_chk', fd_leaf, hc]
 match nl, xs, hc, hn, some_false with
 | some false, xs, hc, hn, sf => exact sf tt
 | some true, xs, hc, hn, sf =>
   obtain rfl : xs = [] := by simpa using hn
   refine call_of (E := E) (sh := sh) (ct := ctOf []) (na := 1) (m := 0) ctOf_nil rfl rfl rfl rfl rfl rfl ?_
   rw [t68n]; rfl
 | none, [], hc, hn, sf =>
   refine call_split' (E := E) (a1 := [.c (.sl 5 (some true) true [])]) (a2 := [.c (.sl 5 (some false) tt [])]) rfl rfl rfl rfl rfl ?_ (sf tt) rfl
   refine call_of (E := E) (sh := sh) (ct := ctOf []) (na := 1) (m := 0) ctOf_nil rfl rfl rfl rfl rfl rfl ?_
   rw [t68n]; rfl
 | none, x :: r, hc, hn, sf =>
   refine call_of (E := E) (sh := sh) (ct := ctOf []) (na := 1) (m := 0) ctOf_nil rfl rfl rfl rfl rfl rfl ?_
   rw [t140c]
   simp only [List.length_cons] at hc
   simp [fd_br, fd_chk', fd_leaf, hc]
theorem nil_len {α : Type} (l : List α) : ((l.length : Int) = 0) = (l = []) := by
 cases l <;> simp; omega
theorem okL_cons (t : Nd) (r : List Nd) (n : Nat) (f : Int) : okL (t :: r) n f = (okT t n && decide (f < hdB t.lab) && okL r n (hdB t.lab)) := by rw [okL]
theorem f69 (d : Nat) (ih : CSpecOk E 69 (s69 d)) (l : List Nd) (nl : OBo) (tt : Bool) (n : Int) (hd : depL l < d + 1) (h0 : 0 <= n) (h1 : n < 1000000) : call E 69 [.c (.sl 3 nl tt (encL l)), V.i n] [] = some ([V.b (okL l n.toNat (-1))], []) := by
 have hct : (ctOf [(64, s64), (69, s69 d)]).ok E := ctOf_cons s64_ok (ctOf_cons ih ctOf_nil)
 refine call_of (E := E) (sh := sh) (ct := ctOf [(64, s64), (69, s69 d)]) (na := 2) (m := 0) hct rfl rfl rfl rfl rfl rfl ?_
 show (p69 d).fd ((p69 d).ft _ _) = _
 rw [t69, encL_length]
 refine fd_post hct (by kernel_rfl) rfl (list_post (p := p69 d) hct (b := b69_0) l.length (fun k (f : Int) => s69_0 nl tt (encL l) n f l.length k) (fun k f => okL (l.drop k) n.toNat f = okL l n.toNat (-1) /\ (k : Int) <= f + 1 /\ f <= 255) _ ?_ ?_ 0 (Nat.zero_le _) (-1) ⟨rfl, by simp, by omega⟩)
 · rintro k f hk ⟨hi, hf, hf2⟩
   rw [List.drop_eq_getElem_cons hk, okL_cons, okT_eq] at hi
   have hkid : depL l[k].kids < d := by have := depL_kid (List.getElem_mem hk); omega
   have ex0 : okL l n.toNat (-1) = false -> (p69 d).fd ((p69 d).fkx 0 (x69_0x0 l[k].lab none (rows l[k].rows) (encL l[k].kids))) = some (.out [V.b (okL l n.toNat (-1))] []) := fun h => by rw [k69_0x0, fd_leaf, h]
   have hh := hdB_lt l[k].lab
   rw [t69_0]
   simp only [nd_ok, nd_lab, nd_rows, nd_kids, encL_length, isL_enc, decL_enc, wrap_hd, hd_pos, ld_br, ld_chk', ld_leaf, decide_true, decide_eq_true_eq, if_true, Int.toNat_natCast, Int.natCast_nonneg, Int.ofNat_lt, beq_iff_eq, ne_eq, Bool.not_eq_true', rows_length, isRows_rows, toRows_rows, hk, encL_getD hk, wrap_succ (show k < 9223372036854775807 by omega), rows_length, checkR_ne, isRows_rows, toRows_rows, nil_len]
   by_cases c1 : l[k].lab = []
   · exact .inr ⟨x69_0x0 l[k].lab none (rows l[k].rows) (encL l[k].kids), by simp, ex0 (by rw [<- hi]; simp [c1]), by rw [if_pos c1]⟩
   rw [if_neg c1]
   by_cases c2 : n < l[k].lab.length
   · exact .inr ⟨x69_0x0 l[k].lab none (rows l[k].rows) (encL l[k].kids), by simp, ex0 (by rw [<- hi]; simp [show ¬ l[k].lab.length <= n.toNat by omega]), by rw [if_pos c2]⟩
   rw [if_neg c2, if_pos c1]
   by_cases c3 : hdB l[k].lab <= f
   · exact .inr ⟨x69_0x0 l[k].lab none (rows l[k].rows) (encL l[k].kids), by simp, ex0 (by rw [<- hi]; simp [show ¬ f < hdB l[k].lab by omega]), by rw [if_pos c3]⟩
   rw [if_neg c3]
   by_cases c4 : right l[k].rows = false
   · exact .inr ⟨x69_0x0 l[k].lab none (rows l[k].rows) (encL l[k].kids), by simp, ex0 (by rw [<- hi]; simp [c4]), by rw [if_pos c4]⟩
   rw [if_neg c4]
   rw [Bool.not_eq_false] at c4
   have w1 : IntKind.wrap .i64 (n - (l[k].lab.length : Int)) = ((n.toNat - l[k].lab.length : Nat) : Int) := by rw [wrap_same (by omega) (by omega)]; omega
   have c2' : l[k].lab.length <= n.toNat := by omega
   have c3' : f < hdB l[k].lab := by omega
   have w2 : ((n.toNat - l[k].lab.length : Nat) : Int) < 1000000 := by omega
   simp only [w1, hkid, w2, Int.natCast_nonneg, Int.toNat_natCast, if_true, c1, not_false_eq_true]
   have rest : (l[k].rows ≠ [] \/ 2 <= l[k].kids.length) -> ((∃ s', ((okL (l.drop (k + 1)) n.toNat s' = okL l n.toNat (-1)) /\ ((k + 1 : Nat) : Int) <= s' + 1 /\ s' <= 255) /\ (if okL l[k].kids (n.toNat - l[k].lab.length) (-1) = false then some (R.x (x69_0x0 l[k].lab none (rows l[k].rows) (encL l[k].kids))) else some (R.s (s69_0 nl tt (encL l) n (hdB l[k].lab) l.length ((k + 1 : Nat) : Int)))) = some (R.s (s69_0 nl tt (encL l) n s' l.length ((k + 1 : Nat) : Int)))) \/ (∃ x : Ex × Fr × Hp, x.1 ≠ .nrm /\ (p69 d).fd ((p69 d).fkx 0 x) = some (.out [V.b (okL l n.toNat (-1))] []) /\ (if okL l[k].kids (n.toNat - l[k].lab.length) (-1) = false then some (R.x (x69_0x0 l[k].lab none (rows l[k].rows) (encL l[k].kids))) else some (R.s (s69_0 nl tt (encL l) n (hdB l[k].lab) l.length ((k + 1 : Nat) : Int)))) = some (R.x x))) := by
     intro c5
     have e5 : (decide (l[k].rows ≠ []) || decide (2 <= l[k].kids.length)) = true := by simpa using c5
     by_cases c6 : okL l[k].kids (n.toNat - l[k].lab.length) (-1) = false
     · exact .inr ⟨x69_0x0 l[k].lab none (rows l[k].rows) (encL l[k].kids), by simp, ex0 (by rw [<- hi, c6]; simp), by rw [if_pos c6]⟩
     · rw [Bool.not_eq_false] at c6
       refine .inl ⟨hdB l[k].lab, ⟨?_, by omega, hh.2⟩, by rw [if_neg (by simp [c6])]⟩
       rw [<- hi, c6, c4, e5]; simp [c1, c2', c3']
   by_cases c5 : l[k].rows = []
   · rw [if_pos c5]
     by_cases c6 : (l[k].kids.length : Int) < 2
     · exact .inr ⟨x69_0x0 l[k].lab none (rows l[k].rows) (encL l[k].kids), by simp, ex0 (by rw [<- hi]; simp [c5, show ¬ 2 <= l[k].kids.length by omega]), by rw [if_pos c6]⟩
     · rw [if_neg c6]
       exact rest (.inr (by omega))
   · rw [if_neg c5]
     exact rest (.inl c5)
 · rintro f ⟨hi, hf, hf2⟩
   rw [List.drop_length, okL] at hi
   rw [t69_0]
   exact ⟨x69_0x1 nl tt (encL l) n f l.length l.length, by simp, by rw [k69_0x1, fd_leaf, <- hi], by simp only [encL_length, wrap_hd, hd_pos, ld_br, ld_chk', ld_leaf, decide_true, decide_eq_true_eq, if_true, Int.toNat_natCast, Int.natCast_nonneg, if_false, bne_iff_ne, beq_iff_eq, ne_eq, Bool.not_eq_true', Int.lt_irrefl]⟩
theorem s69_ok : ∀ d, CSpecOk E 69 (s69 d)
 | 0 => by
   intro a h cs vals h' he hc
   unfold s69 at he
   split at he <;> simp only [Option.some.injEq, Prod.mk.injEq, reduceCtorEq] at he
   obtain ⟨rfl, rfl, rfl⟩ := he
   simp [allT] at hc
 | d + 1 => by
   intro a h cs vals h' he hc
   unfold s69 at he
   split at he <;> simp only [Option.some.injEq, Prod.mk.injEq, reduceCtorEq] at he
   rename_i nl tt xs n
   obtain ⟨rfl, rfl, rfl⟩ := he
   simp only [allT, Bool.and_true, Bool.and_eq_true, decide_eq_true_eq] at hc
   obtain ⟨h1, h2, h3, h4⟩ := hc
   obtain ⟨l, rfl⟩ := isL_ex h1
   rw [decL_enc] at *
   exact f69 d (s69_ok d) l nl tt n h2 h3 h4
end Go.Proofs.YtgaabjmbnomimaaDoor
namespace Go.Proofs.YtgaabjmbnomimaaDoor
open Go Go.Ev
variable (dd : Nat)
noncomputable abbrev p28 : Par := par E sh (ctOf [(69, s69 dd)]) 28 1 0
theorem t28 (s : Bys) (rn : OBo) (rt : Bool) (xs : LLC) (kn : OBo) (kt : Bool) (ys : LLC) : (p28 dd).ft ([V.agg [V.c (C.str s), V.c (C.sl 5 rn rt xs), V.c (C.sl 3 kn kt ys)]]) ([]) = (Tr.br (!s == []) (Tr.leaf (R.out [V.c (C.int IntKind.i64 2)] [])) (Tr.br (decide (0 < (↑xs.length : Int))) (Tr.leaf (R.out [V.c (C.int IntKind.i64 2)] [])) (Tr.chk (isL ys) (Tr.chk (decide (depL (decL ys) < dd)) (Tr.chk true (Tr.chk true (Tr.br (!okL (decL ys) (Int.toNat 24) (-1)) (Tr.leaf (R.out [V.c (C.int IntKind.i64 2)] [])) (Tr.leaf (R.out [V.c (C.int IntKind.i64 0)] []))))))))) := by kernel_rfl
def checkT (t : Nd) : Int := if okR t = true then 0 else 2
def s28 : CSpec := fun a h => match a, h with
 | [.agg [.c (.str s), .c (.sl 5 rn rt xs), .c (.sl 3 kn kt ys)]], [] => some ([isRows xs, isL ys], [V.i (checkT (.node s (toRows xs) (decL ys)))], [])
 | _, _ => none
def s66 : CSpec := fun a h => match a, h with
 | [.c (.sl 3 nl tt xs), .c (.int .u8 b)], [] => some ([isL xs, labsOk (decL xs), decide (0 <= b), decide (b <= 255), decide (xs.length < 4294967296)], [V.i (posK (decL xs) b), V.b (hitK (decL xs) b)], [])
 | _, _ => none
def s165 : CSpec := fun a h => match a, h with
 | [.agg [.c (.str s), .c (.sl 5 none false xs), .c (.sl 3 none false ys)], .c (.int .i64 n)], [] => some ([isRows xs, isL ys, decide (depL (decL ys) + 1 < dd), decide (0 <= n), decide (n < 1000000)], [V.b (okT (.node s (toRows xs) (decL ys)) n.toNat)], [])
 | _, _ => none
def s77 : CSpec := fun a h => match a, h with
 | [.c (.sl 5 nl tt xs)], [] => some ([isRows xs], [V.b (right (toRows xs))], [])
 | _, _ => none
def ee (e : Ent) : List C := [.str e.1, .sl 5 none false (rows e.2)]
def ents (l : List Ent) : List (List C) := l.map ee
def pre (a : Bys) (l : List Ent) : List Ent := l.map fun e => (a ++ e.1, e.2)
noncomputable abbrev p102 : Par := par E sh (ctOf []) 102 1 0
abbrev s102_0 (nl : OBo) (tt : Bool) (xs : LLC) (i3 : Int) : Fr × Hp := ([(0, V.c (C.sl 5 nl tt xs)), (3, V.c (C.int IntKind.i64 i3))], [])
noncomputable abbrev b102_0 : Code := loopAt (codeOf E (102)) 0
abbrev x102_0x0 : Ex × Fr × Hp := (Ex.ret, [(2, V.c (C.bool false))], [])
abbrev x102_0x1 (nl : OBo) (tt : Bool) (xs : LLC) (i3 : Int) : Ex × Fr × Hp := (Ex.exit 0, [(0, V.c (C.sl 5 nl tt xs)), (3, V.c (C.int IntKind.i64 i3)), (10, V.c (C.bool false))], [])
theorem t102_0 (nl : OBo) (tt : Bool) (xs : LLC) (i3 : Int) : p102.lts b102_0 (s102_0 nl tt xs i3) = (Tr.br (decide (i3 < (↑xs.length : Int))) (Tr.chk (decide (0 <= i3)) (Tr.chk true (Tr.chk (decide (i3.toNat < xs.length)) (Tr.chk (shOk [Sk.int IntKind.i64, Sk.int IntKind.i64, Sk.int IntKind.i64, Sk.int IntKind.i64, Sk.str] (xs.getD i3.toNat [])) (Tr.br (decide (100 < (↑((xs.getD i3.toNat []).tail.tail.tail.tail.headD C.pnil).st.length : Int))) (Tr.leaf (R.x x102_0x0)) (Tr.leaf (R.s (s102_0 nl tt xs (IntKind.i64.wrap (i3 + 1)))))))))) (Tr.leaf (R.x (x102_0x1 nl tt xs i3)))) := by kernel_rfl
theorem k102_0x0 : p102.fkx 0 x102_0x0 = (Tr.leaf (R.out [V.c (C.bool false)] [])) := by kernel_rfl
theorem k102_0x1 (nl : OBo) (tt : Bool) (xs : LLC) (i3 : Int) : p102.fkx 0 (x102_0x1 nl tt xs i3) = (Tr.leaf (R.out [V.c (C.bool true)] [])) := by kernel_rfl
theorem t102 (nl : OBo) (tt : Bool) (xs : LLC) : p102.ft ([V.c (C.sl 5 nl tt xs)]) ([]) = (Tr.br (decide (70 < (↑xs.length : Int))) (Tr.leaf (R.out [V.c (C.bool false)] [])) (Tr.ls 0 (s102_0 nl tt xs (0)))) := by kernel_rfl
def shortR (l : List Row) : Bool := decide (l.length <= 70) && l.all fun r => decide (r.v.s.length <= 100)
def s102 : CSpec := fun a h => match a, h with
 | [.c (.sl 5 nl tt xs)], [] => some ([isRows xs], [V.b (shortR (toRows xs))], [])
 | _, _ => none
mutual
def lensT : Nd -> Bool
 | .node lab rs kids => decide (lab.length <= 9223372036854775807) && decide (rs.length <= 9223372036854775807) && decide (kids.length <= 9223372036854775807) && lensL kids
def lensL : List Nd -> Bool
 | [] => true
 | t :: r => lensT t && lensL r
end
mutual
def leftT : Nd -> Int -> Int -> Int
 | .node lab rs kids, n, deep => if deep < 1 \/ n - 1 - ((lab.length / 50 : Nat) : Int) < 1 \/ shortR rs = false then 0 else leftL kids (n - 1 - ((lab.length / 50 : Nat) : Int)) (deep - 1)
def leftL : List Nd -> Int -> Int -> Int
 | [], n, _ => n
 | t :: r, n, deep => if 0 < n then leftL r (leftT t n deep) deep else n
end
def s48 : CSpec := fun a h => match a, h with
 | [.agg [.c (.str s), .c (.sl 5 rn rt xs), .c (.sl 3 kn kt ys)], .c (.int .i64 n), .c (.int .i64 d)], [] => some ([isRows xs, isL ys, decide (depL (decL ys) < dd), decide (0 <= n), decide (n <= 1000), decide (-1000 <= d), decide (d <= 1000), lensT (.node s (toRows xs) (decL ys))], [V.i (leftT (.node s (toRows xs) (decL ys)) n d)], [])
 | _, _ => none
noncomputable abbrev p48 : Par := par E sh (ctOf [(102, s102), (48, s48 dd)]) 48 3 0
abbrev s48_0 (s : Bys) (rn : OBo) (rt : Bool) (xs : LLC) (kn : OBo) (kt : Bool) (ys : LLC) (d : Int) (i1 : Int) (i7 : Int) : Fr × Hp := ([(1, V.c (C.int IntKind.i64 i1)), (2, V.c (C.int IntKind.i64 d)), (3, V.ptr 0 0 0 0), (7, V.c (C.int IntKind.i64 i7))], [O.box [V.c (C.str s), V.c (C.sl 5 rn rt xs), V.c (C.sl 3 kn kt ys)]])
noncomputable abbrev b48_0 : Code := loopAt (codeOf E (48)) 0
abbrev x48_0x0 (s : Bys) (rn : OBo) (rt : Bool) (xs : LLC) (kn : OBo) (kt : Bool) (ys : LLC) (d : Int) (i1 : Int) (i7 : Int) : Ex × Fr × Hp := (Ex.exit 0, [(1, V.c (C.int IntKind.i64 i1)), (2, V.c (C.int IntKind.i64 d)), (3, V.ptr 0 0 0 0), (7, V.c (C.int IntKind.i64 i7)), (35, V.c (C.bool false))], [O.box [V.c (C.str s), V.c (C.sl 5 rn rt xs), V.c (C.sl 3 kn kt ys)]])
theorem t48_0 (s : Bys) (rn : OBo) (rt : Bool) (xs : LLC) (kn : OBo) (kt : Bool) (ys : LLC) (d : Int) (i1 : Int) (i7 : Int) : (p48 dd).lts b48_0 (s48_0 s rn rt xs kn kt ys d i1 i7) = (Tr.br (decide (i7 < (↑ys.length : Int))) (Tr.br (decide (0 < i1)) (Tr.chk (decide (0 <= i7)) (Tr.chk true (Tr.chk (decide (i7.toNat < ys.length)) (Tr.chk (shOk [Sk.str, Sk.sl 5, Sk.sl 3] (ys.getD i7.toNat [])) (Tr.chk (isRows ((ys.getD i7.toNat []).tail.headD C.pnil).xs) (Tr.chk (isL ((ys.getD i7.toNat []).tail.tail.headD C.pnil).xs) (Tr.chk (decide (depL (decL ((ys.getD i7.toNat []).tail.tail.headD C.pnil).xs) < dd)) (Tr.chk (decide (0 <= i1)) (Tr.chk (decide (i1 <= 1000)) (Tr.chk (decide (-1000 <= IntKind.i64.wrap (d - 1))) (Tr.chk (decide (IntKind.i64.wrap (d - 1) <= 1000)) (Tr.chk (lensT (Nd.node ((ys.getD i7.toNat []).headD C.pnil).st (toRows ((ys.getD i7.toNat []).tail.headD C.pnil).xs) (decL ((ys.getD i7.toNat []).tail.tail.headD C.pnil).xs))) (Tr.leaf (R.s (s48_0 s rn rt xs kn kt ys d (leftT (Nd.node ((ys.getD i7.toNat []).headD C.pnil).st (toRows ((ys.getD i7.toNat []).tail.headD C.pnil).xs) (decL ((ys.getD i7.toNat []).tail.tail.headD C.pnil).xs)) i1 (IntKind.i64.wrap (d - 1))) (IntKind.i64.wrap (i7 + 1))))))))))))))))) (Tr.leaf (R.x (x48_0x0 s rn rt xs kn kt ys d i1 i7)))) (Tr.leaf (R.x (x48_0x0 s rn rt xs kn kt ys d i1 i7)))) := by kernel_rfl
theorem k48_0x0 (dd : Nat) (s : Bys) (rn : OBo) (rt : Bool) (xs : LLC) (kn : OBo) (kt : Bool) (ys : LLC) (d : Int) (i1 : Int) (i7 : Int) : (p48 dd).fkx 0 (x48_0x0 s rn rt xs kn kt ys d i1 i7) = (Tr.leaf (R.out [V.c (C.int IntKind.i64 i1)] [])) := by kernel_rfl
theorem t48 (s : Bys) (rn : OBo) (rt : Bool) (xs : LLC) (kn : OBo) (kt : Bool) (ys : LLC) (n : Int) (d : Int) : (p48 dd).ft ([V.agg [V.c (C.str s), V.c (C.sl 5 rn rt xs), V.c (C.sl 3 kn kt ys)], V.i n, V.i d]) ([]) = (Tr.chk true (Tr.br (decide (d < 1)) (Tr.leaf (R.out [V.c (C.int IntKind.i64 0)] [])) (Tr.br (decide (IntKind.i64.wrap (IntKind.i64.wrap (n - 1) - IntKind.i64.wrap ((↑s.length : Int).tdiv 50)) < 1)) (Tr.leaf (R.out [V.c (C.int IntKind.i64 0)] [])) (Tr.chk (isRows xs) (Tr.br (!shortR (toRows xs)) (Tr.leaf (R.out [V.c (C.int IntKind.i64 0)] [])) (Tr.ls 0 (s48_0 s rn rt xs kn kt ys d (IntKind.i64.wrap (IntKind.i64.wrap (n - 1) - IntKind.i64.wrap ((↑s.length : Int).tdiv 50))) (0)))))))) := by kernel_rfl
end Go.Proofs.YtgaabjmbnomimaaDoor
namespace Go.Proofs.YtgaabjmbnomimaaDoor
open Go Go.Ev
theorem okR_node (s : Bys) (rs : List Row) (ks : List Nd) : okR (.node s rs ks) = (decide (s = []) && decide (rs = []) && okL ks 24 (-1)) := rfl
theorem f28 (s : Bys) (rn : OBo) (rt : Bool) (rs : List Row) (kn : OBo) (kt : Bool) (ks : List Nd) : call E 28 [.agg [.c (.str s), .c (.sl 5 rn rt (rows rs)), .c (.sl 3 kn kt (encL ks))]] [] = some ([V.i (checkT (.node s rs ks))], []) := by
 have hct : (ctOf [(69, s69 (depL ks + 1))]).ok E := ctOf_cons (s69_ok _) ctOf_nil
 refine call_of (E := E) (sh := sh) (ct := ctOf [(69, s69 (depL ks + 1))]) (na := 1) (m := 0) hct rfl rfl rfl rfl rfl rfl ?_
 show (p28 (depL ks + 1)).fd ((p28 (depL ks + 1)).ft _ _) = _
 rw [t28]
 simp only [isL_enc, decL_enc, fd_br, fd_chk', fd_leaf, decide_true, decide_eq_true_eq, if_true, Bool.not_eq_true', rows_length, rows_length, show depL ks < depL ks + 1 by omega, checkT, okR_node]
 by_cases c1 : s = []
 · by_cases c2 : rs = []
   · have e24 : Int.toNat 24 = 24 := rfl
     simp only [c1, c2, List.length_nil, Int.natCast_zero, Int.lt_irrefl, if_false, decide_true, Bool.true_and, e24]
     cases okL ks 24 (-1) <;> simp
   · have h : (0 : Int) < rs.length := by have := List.length_pos_iff.2 c2; omega
     simp only [c1, c2, h, if_false, if_true, decide_false, Bool.and_false, Bool.false_and, Bool.false_eq_true]
     simp
 · simp [c1]
theorem s28_ok : CSpecOk E 28 s28 := by
 intro a h cs vals h' he hc
 unfold s28 at he
 split at he <;> simp only [Option.some.injEq, Prod.mk.injEq, reduceCtorEq] at he
 rename_i s rn rt xs kn kt ys
 obtain ⟨rfl, rfl, rfl⟩ := he
 simp only [allT, Bool.and_true, Bool.and_eq_true] at hc
 obtain ⟨h1, h2⟩ := hc
 obtain ⟨rs, rfl⟩ := rows_ex h1
 obtain ⟨ks, rfl⟩ := isL_ex h2
 simp only [toRows_rows, decL_enc]
 exact f28 s rn rt rs kn kt ks
theorem right_len4 {l : List Row} (h : right l = true) : l.length <= 64 := by
 simp only [right, Bool.and_eq_true, decide_eq_true_eq] at h; exact h.1
theorem okL_labs {l : List Nd} {n : Nat} {f : Int} (h : okL l n f = true) : labsOk l = true :=
 List.all_eq_true.2 fun t ht => by simpa using (okT_lab (okL_mem h t ht).1).1
theorem nd_node (t : Nd) : Nd.node t.lab t.rows t.kids = t := Nd.eta t
end Go.Proofs.YtgaabjmbnomimaaDoor
namespace Go.Proofs.YtgaabjmbnomimaaDoor
open Go Go.Ev
theorem pre_pre (a b : Bys) (l : List Ent) : pre a (pre b l) = pre (a ++ b) l := by simp [pre, Function.comp_def]
theorem pre_app (a : Bys) (l m : List Ent) : pre a (l ++ m) = pre a l ++ pre a m := by simp [pre]
@[simp] theorem pre_length (a : Bys) (l : List Ent) : (pre a l).length = l.length := by simp [pre]
theorem pre_nil (l : List Ent) : pre [] l = l := by simp [pre]
@[simp] theorem ents_length (l : List Ent) : (ents l).length = l.length := by simp [ents]
theorem entL_app (l m : List Nd) : entL (l ++ m) = entL l ++ entL m := by
 induction l with
 | nil => rfl
 | cons t r ih => rw [List.cons_append, entL, entL, ih, List.append_assoc]
theorem entT_mem_len : ∀ {l : List Nd} {t : Nd}, t ∈ l -> (entT t).length <= (entL l).length
 | x :: r, t, h => by
   rw [entL, List.length_append]
   rcases List.mem_cons.1 h with rfl | h
   · omega
   · have := entT_mem_len h; omega
def ownE (q : Bys) (rs : List Row) : List Ent := if rs = [] then [] else [(q, rs)]
theorem entT_node (q s : Bys) (rs : List Row) (ks : List Nd) : pre q (entT (.node s rs ks)) = ownE (q ++ s) rs ++ pre (q ++ s) (entL ks) := by
 have e : entT (.node s rs ks) = ownE s rs ++ pre s (entL ks) := by rw [entT_eq]; rfl
 rw [e, pre_app, pre_pre]
 congr 1
 unfold ownE
 split <;> rfl
theorem ee_p (e : Ent) (d : C) : ((ee e).headD d).st = e.1 := rfl
theorem ee_r (e : Ent) (d : C) : ((ee e).tail.headD d).xs = rows e.2 := rfl
theorem ee_ok (e : Ent) : shOk [.str, .sl 5] (ee e) = true := rfl
theorem f102 (l : List Row) (nl : OBo) (tt : Bool) : call E 102 [.c (.sl 5 nl tt (rows l))] [] = some ([V.b (shortR l)], []) := by
 have hct : (ctOf []).ok E := ctOf_nil
 refine call_of (E := E) (sh := sh) (ct := ctOf []) (na := 1) (m := 0) hct rfl rfl rfl rfl rfl rfl ?_
 rw [t102, rows_length, fd_br]
 unfold shortR
 by_cases c0 : (70 : Int) < l.length
 · rw [if_pos (by simpa using c0), fd_leaf]
   have : ¬ l.length <= 70 := by omega
   simp [this]
 rw [if_neg (by simpa using c0)]
 have c0' : l.length <= 70 := by omega
 simp only [c0', decide_true, Bool.true_and]
 refine fd_post hct (by kernel_rfl) rfl (list_post (p := p102) hct (b := b102_0) l.length (fun k (_ : Unit) => s102_0 nl tt (rows l) k) (fun k _ => ((l.drop k).all fun r => decide (r.v.s.length <= 100)) = (l.all fun r => decide (r.v.s.length <= 100))) _ ?_ ?_ 0 (Nat.zero_le _) () rfl)
 · rintro k _ hk hi
   rw [List.drop_eq_getElem_cons hk, List.all_cons] at hi
   rw [t102_0]
   simp only [ld_br, ld_chk', ld_leaf, decide_true, decide_eq_true_eq, if_true, Int.toNat_natCast, Int.natCast_nonneg, Int.ofNat_lt, ne_eq, rows_length, er_ok', er_s, hk, rows_getD hk, wrap_succ (show k < 9223372036854775807 by omega)]
   by_cases c : (100 : Int) < l[k].v.s.length
   · have : ¬ l[k].v.s.length <= 100 := by omega
     simp only [this, decide_false, Bool.false_and] at hi
     exact .inr ⟨x102_0x0, by simp, by rw [k102_0x0, fd_leaf, <- hi], by rw [if_pos c]⟩
   · have : l[k].v.s.length <= 100 := by omega
     simp only [this, decide_true, Bool.true_and] at hi
     exact .inl ⟨(), hi, by rw [if_neg c]⟩
 · rintro _ hi
   rw [List.drop_length, List.all_nil] at hi
   rw [t102_0]
   exact ⟨x102_0x1 nl tt (rows l) l.length, by simp, by rw [k102_0x1, fd_leaf, <- hi], by simp only [ld_br, ld_chk', ld_leaf, decide_true, decide_eq_true_eq, if_true, Int.toNat_natCast, Int.natCast_nonneg, if_false, rows_length, Int.lt_irrefl]⟩
theorem s102_ok : CSpecOk E 102 s102 := by
 intro a h cs vals h' he hc
 unfold s102 at he
 split at he <;> simp only [Option.some.injEq, Prod.mk.injEq, reduceCtorEq] at he
 rename_i nl tt xs
 obtain ⟨rfl, rfl, rfl⟩ := he
 simp only [allT, Bool.and_true] at hc
 obtain ⟨l, rfl⟩ := rows_ex hc
 rw [toRows_rows]
 exact f102 l nl tt
theorem leftL_cons (t : Nd) (r : List Nd) (n d : Int) : leftL (t :: r) n d = if 0 < n then leftL r (leftT t n d) d else n := by rw [leftL]
mutual
theorem leftT_le : ∀ (t : Nd) (n d : Int), 0 <= n -> 0 <= leftT t n d /\ leftT t n d <= n
 | .node lab rs ks, n, d, h => by
   rw [leftT]
   split
   · omega
   · have := leftL_le ks (n - 1 - ((lab.length / 50 : Nat) : Int)) (d - 1) (by omega)
     omega
theorem leftL_le : ∀ (l : List Nd) (n d : Int), 0 <= n -> 0 <= leftL l n d /\ leftL l n d <= n
 | [], n, d, h => by rw [leftL]; omega
 | t :: r, n, d, h => by
   rw [leftL]
   split
   · have h1 := leftT_le t n d h
     have h2 := leftL_le r (leftT t n d) d h1.1
     omega
   · omega
end
theorem lensL_mem : ∀ {l : List Nd} {t : Nd}, lensL l = true -> t ∈ l -> lensT t = true
 | x :: r, t, h, ht => by
   rw [lensL, Bool.and_eq_true] at h
   rcases List.mem_cons.1 ht with rfl | ht
   · exact h.1
   · exact lensL_mem h.2 ht
theorem lensT_eq (t : Nd) : lensT t = (decide (t.lab.length <= 9223372036854775807) && decide (t.rows.length <= 9223372036854775807) && decide (t.kids.length <= 9223372036854775807) && lensL t.kids) := by cases t; rw [lensT]; rfl
theorem f48 (dd : Nat) (ih : CSpecOk E 48 (s48 dd)) (s : Bys) (rn : OBo) (rt : Bool) (rs : List Row) (kn : OBo) (kt : Bool) (ks : List Nd) (n d : Int) (hd : depL ks < dd + 1) (h0 : 0 <= n) (h1 : n <= 1000) (h2 : -1000 <= d) (h3 : d <= 1000) (hl : lensT (.node s rs ks) = true) :
   call E 48 [.agg [.c (.str s), .c (.sl 5 rn rt (rows rs)), .c (.sl 3 kn kt (encL ks))], V.i n, V.i d] [] = some ([V.i (leftT (.node s rs ks) n d)], []) := by
 have hct : (ctOf [(102, s102), (48, s48 dd)]).ok E := ctOf_cons s102_ok (ctOf_cons ih ctOf_nil)
 refine call_of (E := E) (sh := sh) (ct := ctOf [(102, s102), (48, s48 dd)]) (na := 3) (m := 0) hct rfl rfl rfl rfl rfl rfl ?_
 show (p48 dd).fd ((p48 dd).ft _ _) = _
 rw [lensT] at hl
 simp only [Bool.and_eq_true, decide_eq_true_eq] at hl
 obtain ⟨⟨⟨l1, l2⟩, l4⟩, l3⟩ := hl
 have w0 : ((s.length : Int).tdiv 50) = ((s.length / 50 : Nat) : Int) := rfl
 have w1 : IntKind.wrap .i64 (IntKind.wrap .i64 (n - 1) - IntKind.wrap .i64 ((s.length : Int).tdiv 50)) = n - 1 - ((s.length / 50 : Nat) : Int) := by
   rw [w0, wrap_same (n := n - 1) (by omega) (by omega), wrap_same (n := ((s.length / 50 : Nat) : Int)) (by omega) (by omega), wrap_same (by omega) (by omega)]
 rw [t48, w1]
 simp only [fd_br, fd_chk', fd_leaf, decide_eq_true_eq, if_true, Bool.not_eq_true', isRows_rows, toRows_rows]
 rw [leftT]
 have hm : n - 1 - ((s.length / 50 : Nat) : Int) <= 1000 := by omega
 generalize n - 1 - ((s.length / 50 : Nat) : Int) = m at *
 by_cases c1 : d < 1
 · simp [c1]
 rw [if_neg c1]
 by_cases c2 : m < 1
 · simp [c2]
 rw [if_neg c2]
 by_cases c3 : shortR rs = false
 · simp [c3]
 rw [if_neg c3, if_neg (show ¬ (d < 1 \/ m < 1 \/ shortR rs = false) from fun h => h.elim c1 fun h => h.elim c2 c3)]
 have hm0 : 0 <= m := by omega
 have w2 : IntKind.wrap .i64 (d - 1) = d - 1 := wrap_same (by omega) (by omega)
 refine fd_post hct (by kernel_rfl) rfl (list_post (p := p48 dd) hct (b := b48_0) ks.length (fun k (m : Int) => s48_0 s rn rt (rows rs) kn kt (encL ks) d m k) (fun k m' => leftL (ks.drop k) m' (d - 1) = leftL ks m (d - 1) /\ 0 <= m' /\ m' <= 1000) _ ?_ ?_ 0 (Nat.zero_le _) m ⟨rfl, hm0, hm⟩)
 · rintro k m' hk ⟨hi, hm1, hm2⟩
   rw [List.drop_eq_getElem_cons hk, leftL_cons] at hi
   have hkid : depL ks[k].kids < dd := by have := depL_kid (List.getElem_mem hk); omega
   rw [t48_0]
   by_cases c : 0 < m'
   · rw [if_pos c] at hi
     have hb := leftT_le ks[k] m' (d - 1) hm1
     refine .inl ⟨leftT ks[k] m' (d - 1), ⟨hi, hb.1, by omega⟩, ?_⟩
     simp only [nd_ok, nd_lab, nd_rows, nd_kids, encL_length, isL_enc, decL_enc, ld_br, ld_chk', ld_leaf, decide_true, if_true, Int.toNat_natCast, Int.natCast_nonneg, Int.ofNat_lt, isRows_rows, toRows_rows, hk, encL_getD hk, nd_node, hkid, w2, hm1, hm2, c, show -1000 <= d - 1 by omega, show d - 1 <= 1000 by omega, lensL_mem l3 (List.getElem_mem hk), wrap_succ (show k < 9223372036854775807 by omega)]
   · rw [if_neg c] at hi
     exact .inr ⟨x48_0x0 s rn rt (rows rs) kn kt (encL ks) d m' k, by simp, by rw [k48_0x0, fd_leaf, <- hi], by simp only [encL_length, ld_br, ld_chk', ld_leaf, decide_true, decide_eq_true_eq, if_true, Int.toNat_natCast, Int.natCast_nonneg, Int.ofNat_lt, if_false, hk, c]⟩
 · rintro m' ⟨hi, hm1, hm2⟩
   rw [List.drop_length, leftL] at hi
   rw [t48_0]
   exact ⟨x48_0x0 s rn rt (rows rs) kn kt (encL ks) d m' ks.length, by simp, by rw [k48_0x0, fd_leaf, <- hi], by simp only [encL_length, ld_br, ld_chk', ld_leaf, decide_true, decide_eq_true_eq, if_true, Int.toNat_natCast, Int.natCast_nonneg, if_false, Int.lt_irrefl]⟩
theorem s48_ok : ∀ d, CSpecOk E 48 (s48 d)
 | 0 => by
   intro a h cs vals h' he hc
   unfold s48 at he
   split at he <;> simp only [Option.some.injEq, Prod.mk.injEq, reduceCtorEq] at he
   obtain ⟨rfl, rfl, rfl⟩ := he
   simp [allT] at hc
 | d + 1 => by
   intro a h cs vals h' he hc
   unfold s48 at he
   split at he <;> simp only [Option.some.injEq, Prod.mk.injEq, reduceCtorEq] at he
   rename_i s rn rt xs kn kt ys n k
   obtain ⟨rfl, rfl, rfl⟩ := he
   simp only [allT, Bool.and_true, Bool.and_eq_true, decide_eq_true_eq] at hc
   obtain ⟨h1, h2, h3, h4, h5, h6, h7, h8⟩ := hc
   obtain ⟨rs, rfl⟩ := rows_ex h1
   obtain ⟨ks, rfl⟩ := isL_ex h2
   simp only [toRows_rows, decL_enc] at *
   exact f48 d (s48_ok d) s rn rt rs kn kt ks n k h3 h4 h5 h6 h7 h8
end Go.Proofs.YtgaabjmbnomimaaDoor
namespace Go.Proofs.YtgaabjmbnomimaaDoor
open Go Go.Ev
def s149 : CSpec := fun a h => match a, h with
 | [.c (.sl 3 nl tt xs)], [] => some ([decide (xs.length < 4294967296)], [.buf 0 0 0 xs.length], [.mem 3 0 xs])
 | _, _ => none
noncomputable abbrev p117 : Par := par E sh (ctOf [(149, s149)]) 117 1 0
theorem t117 (s : Bys) (rn : OBo) (rt : Bool) (xs : LLC) (kn : OBo) (kt : Bool) (ys : LLC) : p117.ft ([V.agg [V.c (C.str s), V.c (C.sl 5 rn rt xs), V.c (C.sl 3 kn kt ys)]]) ([]) = (Tr.chk (decide (ys.length < 4294967296)) (Tr.leaf (R.out [V.agg [V.c (C.str s), V.c (C.sl 5 rn rt xs), V.buf 0 0 0 ys.length]] [O.mem 3 0 ys]))) := by kernel_rfl
noncomputable abbrev p119 : Par := par E sh (ctOf []) 119 2 0
abbrev s119_0 (a : Bys) (b : Bys) (i5 : Int) : Fr × Hp := ([(0, V.c (C.str a)), (1, V.c (C.str b)), (5, V.c (C.int IntKind.i64 i5))], [])
noncomputable abbrev b119_0 : Code := loopAt (codeOf E (119)) 0
abbrev x119_0x0 (a : Bys) (b : Bys) (i5 : Int) : Ex × Fr × Hp := (Ex.exit 0, [(0, V.c (C.str a)), (1, V.c (C.str b)), (5, V.c (C.int IntKind.i64 i5)), (24, V.c (C.bool false))], [])
theorem t119_0 (a : Bys) (b : Bys) (i5 : Int) : p119.lts b119_0 (s119_0 a b i5) = (Tr.br (decide (i5 < (↑a.length : Int))) (Tr.br (decide (i5 < (↑b.length : Int))) (Tr.chk (decide (0 <= i5)) (Tr.chk (decide (i5.toNat < a.length)) (Tr.chk (decide (0 <= i5)) (Tr.chk (decide (i5.toNat < b.length)) (Tr.br ((↑(a.getD i5.toNat 0).toNat : Int) == (↑(b.getD i5.toNat 0).toNat : Int)) (Tr.leaf (R.s (s119_0 a b (IntKind.i64.wrap (i5 + 1))))) (Tr.leaf (R.x (x119_0x0 a b i5)))))))) (Tr.leaf (R.x (x119_0x0 a b i5)))) (Tr.leaf (R.x (x119_0x0 a b i5)))) := by kernel_rfl
theorem k119_0x0 (a : Bys) (b : Bys) (i5 : Int) : p119.fkx 0 (x119_0x0 a b i5) = (Tr.leaf (R.out [V.c (C.int IntKind.i64 i5)] [])) := by kernel_rfl
theorem t119 (a : Bys) (b : Bys) : p119.ft ([V.c (C.str a), V.c (C.str b)]) ([]) = (Tr.ls 0 (s119_0 a b (0))) := by kernel_rfl
noncomputable abbrev p120 : Par := par E sh (ctOf []) 120 2 0
theorem t120 (s : Bys) (xs : LLC) (ys : LLC) (n : Int) : p120.ft ([V.agg [V.c (C.str s), V.c (C.sl 5 none false xs), V.c (C.sl 3 none false ys)], V.i n]) ([]) = (Tr.chk (decide (0 <= n)) (Tr.chk true (Tr.chk (decide (n.toNat <= s.length)) (Tr.chk (decide (0 <= n)) (Tr.chk (decide (n.toNat <= s.length)) (Tr.chk (decide (s.length <= s.length)) (Tr.leaf (R.out [V.agg [V.c (C.str (List.take n.toNat s)), V.c (C.sl 5 none false []), V.c (C.sl 3 none false [[C.str (List.drop n.toNat (List.take s.length s)), C.sl 5 none false xs, C.sl 3 none false ys]])]] [])))))))) := by kernel_rfl
noncomputable abbrev p123b : Par := par E sh (ctOf [(124, s124)]) 123 3 1
abbrev s123b_0 (len : Nat) (xs : LLC) (b : Int) (i8 : Int) (i9 : Int) (i10 : Int) : Fr × Hp := ([(0, V.buf 0 0 0 len), (1, V.c (C.int IntKind.u8 b)), (2, V.fn 124 []), (8, V.c (C.int IntKind.i64 i8)), (9, V.c (C.int IntKind.i64 i9)), (10, V.c (C.int IntKind.i64 i10))], [O.mem 3 0 xs])
noncomputable abbrev b123b_0 : Code := loopAt (codeOf E (123)) 0
abbrev x123b_0x0 (len : Nat) (xs : LLC) (b : Int) (i8 : Int) (i9 : Int) (i10 : Int) : Ex × Fr × Hp := (Ex.exit 0, [(0, V.buf 0 0 0 len), (1, V.c (C.int IntKind.u8 b)), (2, V.fn 124 []), (8, V.c (C.int IntKind.i64 i8)), (9, V.c (C.int IntKind.i64 i9)), (10, V.c (C.int IntKind.i64 i10)), (17, V.c (C.bool false))], [O.mem 3 0 xs])
theorem t123b_0 (len : Nat) (xs : LLC) (b : Int) (i8 : Int) (i9 : Int) (i10 : Int) : p123b.lts b123b_0 (s123b_0 len xs b i8 i9 i10) = (Tr.br (decide (i9 < i10)) (Tr.chk (decide (0 <= IntKind.i64.wrap (IntKind.u64.wrap (IntKind.i64.wrap (i9 + i10)) / 2 ^ min (Int.toNat 1) IntKind.u64.bits))) (Tr.chk (decide (IntKind.i64.wrap (IntKind.u64.wrap (IntKind.i64.wrap (i9 + i10)) / 2 ^ min (Int.toNat 1) IntKind.u64.bits) < (↑len : Int))) (Tr.chk true (Tr.chk true (Tr.chk true (Tr.chk (decide (0 + (IntKind.i64.wrap (IntKind.u64.wrap (IntKind.i64.wrap (i9 + i10)) / 2 ^ min (Int.toNat 1) IntKind.u64.bits)).toNat < xs.length)) (Tr.chk (decide (3 <= (xs.getD (0 + (IntKind.i64.wrap (IntKind.u64.wrap (IntKind.i64.wrap (i9 + i10)) / 2 ^ min (Int.toNat 1) IntKind.u64.bits)).toNat) []).length)) (Tr.chk (shOk [Sk.str, Sk.sl 5, Sk.sl 3] (List.take 3 (xs.getD (0 + (IntKind.i64.wrap (IntKind.u64.wrap (IntKind.i64.wrap (i9 + i10)) / 2 ^ min (Int.toNat 1) IntKind.u64.bits)).toNat) []))) (Tr.chk (decide (((List.take 3 (xs.getD (0 + (IntKind.i64.wrap (IntKind.u64.wrap (IntKind.i64.wrap (i9 + i10)) / 2 ^ min (Int.toNat 1) IntKind.u64.bits)).toNat) [])).headD C.pnil).st ≠ [])) (Tr.chk (decide (0 <= b)) (Tr.chk (decide (b <= 255)) (Tr.br (decide (hdB ((List.take 3 (xs.getD (0 + (IntKind.i64.wrap (IntKind.u64.wrap (IntKind.i64.wrap (i9 + i10)) / 2 ^ min (Int.toNat 1) IntKind.u64.bits)).toNat) [])).headD C.pnil).st - b < 0)) (Tr.leaf (R.s (s123b_0 len xs b i8 (IntKind.i64.wrap (IntKind.i64.wrap (IntKind.u64.wrap (IntKind.i64.wrap (i9 + i10)) / 2 ^ min (Int.toNat 1) IntKind.u64.bits) + 1)) i10))) (Tr.leaf (R.s (s123b_0 len xs b i8 i9 (IntKind.i64.wrap (IntKind.u64.wrap (IntKind.i64.wrap (i9 + i10)) / 2 ^ min (Int.toNat 1) IntKind.u64.bits))))))))))))))))) (Tr.leaf (R.x (x123b_0x0 len xs b i8 i9 i10)))) := by kernel_rfl
theorem k123b_0x0 (len : Nat) (xs : LLC) (b : Int) (i8 : Int) (i9 : Int) (i10 : Int) : p123b.fkx 0 (x123b_0x0 len xs b i8 i9 i10) = (Tr.br (decide (i9 < i8)) (Tr.chk (decide (0 <= i9)) (Tr.chk (decide (i9 < (↑len : Int))) (Tr.chk true (Tr.chk true (Tr.chk true (Tr.chk (decide (0 + i9.toNat < xs.length)) (Tr.chk (decide (3 <= (xs.getD (0 + i9.toNat) []).length)) (Tr.chk (shOk [Sk.str, Sk.sl 5, Sk.sl 3] (List.take 3 (xs.getD (0 + i9.toNat) []))) (Tr.chk (decide (((List.take 3 (xs.getD (0 + i9.toNat) [])).headD C.pnil).st ≠ [])) (Tr.chk (decide (0 <= b)) (Tr.chk (decide (b <= 255)) (Tr.leaf (R.out [V.c (C.int IntKind.i64 i9), V.c (C.bool (hdB ((List.take 3 (xs.getD (0 + i9.toNat) [])).headD C.pnil).st - b == 0))] [O.mem 3 0 xs]))))))))))))) (Tr.leaf (R.out [V.c (C.int IntKind.i64 i9), V.c (C.bool false)] [O.mem 3 0 xs]))) := by kernel_rfl
theorem t123b (len : Nat) (xs : LLC) (b : Int) : p123b.ft ([V.buf 0 0 0 len, V.c (C.int IntKind.u8 b), V.fn 124 []]) ([O.mem 3 0 xs]) = (Tr.chk true (Tr.ls 0 (s123b_0 len xs b ((↑len : Int)) (0) ((↑len : Int))))) := by kernel_rfl
end Go.Proofs.YtgaabjmbnomimaaDoor
namespace Go.Proofs.YtgaabjmbnomimaaDoor
open Go Go.Ev
theorem Nd.lab_node (a : Bys) (b : List Row) (c : List Nd) : (Nd.node a b c).lab = a := rfl
theorem Nd.rows_node (a : Bys) (b : List Row) (c : List Nd) : (Nd.node a b c).rows = b := rfl
theorem Nd.kids_node (a : Bys) (b : List Row) (c : List Nd) : (Nd.node a b c).kids = c := rfl
theorem bl_irrefl : ∀ x : List UInt8, Op.bytesLess x x = false
 | [] => rfl
 | a :: x => by simp [Op.bytesLess, bl_irrefl x]
theorem bl_trans : ∀ {x y z : List UInt8}, Op.bytesLess x y = true -> Op.bytesLess y z = true -> Op.bytesLess x z = true
 | [], [], _, h, _ => by simp [Op.bytesLess] at h
 | [], _ :: _, [], _, h => by simp [Op.bytesLess] at h
 | [], _ :: _, _ :: _, _, _ => rfl
 | _ :: _, [], _, h, _ => by simp [Op.bytesLess] at h
 | _ :: _, _ :: _, [], _, h => by simp [Op.bytesLess] at h
 | a :: x, b :: y, c :: z, h, k => by
   simp only [Op.bytesLess, Bool.or_eq_true, decide_eq_true_eq, Bool.and_eq_true, beq_iff_eq] at h k ⊢
   rcases h with h | ⟨rfl, h⟩ <;> rcases k with k | ⟨rfl, k⟩
   · exact .inl (UInt8.lt_trans h k)
   · exact .inl h
   · exact .inl k
   · exact .inr ⟨rfl, bl_trans h k⟩
theorem bl_total : ∀ (x y : Bys), Op.bytesLess x y = false -> Op.bytesLess y x = false -> x = y
 | [], [], _, _ => rfl
 | [], _ :: _, h, _ => by simp [Op.bytesLess] at h
 | _ :: _, [], _, h => by simp [Op.bytesLess] at h
 | a :: x, b :: y, h, k => by
   simp only [Op.bytesLess, Bool.or_eq_false_iff, decide_eq_false_iff_not, Bool.and_eq_false_iff, beq_eq_false_iff_ne] at h k
   have e : a = b := by
     have h1 := UInt8.not_lt.1 h.1
     have h2 := UInt8.not_lt.1 k.1
     exact UInt8.le_antisymm h2 h1
   subst e
   rw [bl_total x y (h.2.resolve_left (by simp)) (k.2.resolve_left (by simp))]
theorem bl_asymm {x y : List UInt8} (h : Op.bytesLess x y = true) : Op.bytesLess y x = false := by
 cases k : Op.bytesLess y x with
 | false => rfl
 | true => have := bl_trans h k; rw [bl_irrefl] at this; cases this
theorem bl_ne {x y : List UInt8} (h : Op.bytesLess x y = true) : x ≠ y := by
 rintro rfl
 rw [bl_irrefl] at h; cases h
theorem bl_app : ∀ (a x y : Bys), Op.bytesLess (a ++ x) (a ++ y) = Op.bytesLess x y
 | [], _, _ => rfl
 | c :: a, x, y => by simp [Op.bytesLess, bl_app a x y]
theorem bl_hd {x y : List UInt8} (hx : x ≠ []) (hy : y ≠ []) (h : hdB x < hdB y) : Op.bytesLess x y = true := by
 obtain ⟨a, r, rfl⟩ := head_of_ne hx
 obtain ⟨b, s, rfl⟩ := head_of_ne hy
 simp only [hdB, List.headD_cons] at h
 have : a < b := by rw [UInt8.lt_iff_toNat_lt]; omega
 simp [Op.bytesLess, this]
def ownB (rs : List Row) : List Ent := if rs = [] then [] else [([], rs)]
def entB (t : Nd) : List Ent := ownB t.rows ++ entL t.kids
theorem entT_B (t : Nd) : entT t = (entB t).map fun e => (t.lab ++ e.1, e.2) := by
 rw [entT_eq, entB, List.map_append, ownB]
 split <;> simp
def insE : List Ent -> List UInt8 -> List Row -> List Ent
 | [], p, r => if r = [] then [] else [(p, r)]
 | e :: l, p, r => if Op.bytesLess e.1 p = true then e :: insE l p r else if e.1 = p then (if r = [] then l else (p, r) :: l) else if r = [] then e :: l else (p, r) :: e :: l
theorem insE_lt {A l : List Ent} {p : List UInt8} {r : List Row} (h : ∀ e ∈ A, Op.bytesLess e.1 p = true) : insE (A ++ l) p r = A ++ insE l p r := by
 induction A with
 | nil => rfl
 | cons e A ih =>
   rw [List.cons_append, insE, if_pos (h e (by simp)), ih fun x hx => h x (by simp [hx])]; rfl
theorem insE_gt {B : List Ent} {p : List UInt8} {r : List Row} (h : ∀ e ∈ B, Op.bytesLess p e.1 = true) : insE B p r = (if r = [] then [] else [(p, r)]) ++ B := by
 cases B with
 | nil => simp [insE]
 | cons e B =>
   have h1 := h e (by simp)
   rw [insE, if_neg (by rw [bl_asymm h1]; simp), if_neg (fun h => bl_ne h1 h.symm)]
   split <;> simp
theorem insE_mid {M B : List Ent} {p : List UInt8} {r : List Row} (h : ∀ e ∈ B, Op.bytesLess p e.1 = true) : insE (M ++ B) p r = insE M p r ++ B := by
 induction M with
 | nil => rw [List.nil_append, insE_gt h]; rfl
 | cons e M ih =>
   simp only [List.cons_append, insE, ih]
   split
   · rfl
   · split
     · split <;> rfl
     · split <;> rfl
theorem insE_map (a : Bys) (l : List Ent) (p : Bys) (r : List Row) : insE (l.map fun e => (a ++ e.1, e.2)) (a ++ p) r = (insE l p r).map fun e => (a ++ e.1, e.2) := by
 induction l with
 | nil => simp only [List.map_nil, insE]; split <;> simp
 | cons e l ih =>
   simp only [List.map_cons, insE, bl_app, List.append_cancel_left_eq, ih]
   split
   · simp
   · split
     · split <;> simp
     · split <;> simp
theorem insE_absent {l : List Ent} {p : List UInt8} (h : ∀ e ∈ l, e.1 ≠ p) : insE l p [] = l := by
 induction l with
 | nil => rfl
 | cons e l ih =>
   rw [insE, ih fun x hx => h x (by simp [hx]), if_neg (h e (by simp))]
   simp
def sharedL : List UInt8 -> List UInt8 -> Nat
 | a :: r, b :: s => if a = b then sharedL r s + 1 else 0
 | _, _ => 0
def joinN (t : Nd) : Option Nd :=
 if t.rows ≠ [] \/ 2 <= t.kids.length then some t else match t.kids with
   | [] => none
   | k :: _ => some (.node (t.lab ++ k.lab) k.rows k.kids)
def splitN (t : Nd) (n : Nat) : Nd := .node (t.lab.take n) [] [.node (t.lab.drop n) t.rows t.kids]
def downN (k : Nd) (p : Bys) : Nd := if sharedL k.lab p < k.lab.length then splitN k (sharedL k.lab p) else k
def setN (t : Nd) (i : Nat) : Option Nd -> Nd
 | some k => .node t.lab t.rows (t.kids.set i k)
 | none => .node t.lab t.rows (t.kids.take i ++ t.kids.drop (i + 1))
def putN : Nat -> Nd -> List UInt8 -> List Row -> Nd
 | 0, t, _, _ => t
 | f + 1, t, p, rs => match p with
   | [] => .node t.lab rs t.kids
   | b :: q =>
     if hitK t.kids (b.toNat : Int) = true then
       if sharedL (t.kids.getD (posK t.kids (b.toNat : Int)) default).lab (b :: q) < (t.kids.getD (posK t.kids (b.toNat : Int)) default).lab.length /\ rs = [] then t
       else setN t (posK t.kids (b.toNat : Int)) (joinN (putN f (downN (t.kids.getD (posK t.kids (b.toNat : Int)) default) (b :: q)) ((b :: q).drop (sharedL (t.kids.getD (posK t.kids (b.toNat : Int)) default).lab (b :: q))) rs))
     else if rs = [] then t else .node t.lab t.rows (t.kids.take (posK t.kids (b.toNat : Int)) ++ .node (b :: q) rs [] :: t.kids.drop (posK t.kids (b.toNat : Int)))
theorem shared_split : ∀ (a p : Bys), a.take (sharedL a p) = p.take (sharedL a p) /\ sharedL a p <= a.length /\ sharedL a p <= p.length
 | [], p => by simp [sharedL]
 | _ :: _, [] => by simp [sharedL]
 | a :: r, b :: s => by
   simp only [sharedL]
   split
   · rename_i h
     have := shared_split r s
     simp [h, this.1, this.2.1, this.2.2]
   · simp
theorem shared_next : ∀ (a p : Bys), sharedL a p < a.length -> ¬ a <+: p
 | [], p, h => by simp [sharedL] at h
 | _ :: _, [], _ => by simp
 | a :: r, b :: s, h => by
   simp only [sharedL] at h
   rw [List.cons_prefix_cons]
   split at h
   · rintro ⟨_, h2⟩
     exact shared_next r s (by simpa using h) h2
   · rename_i hne
     exact fun h2 => hne h2.1
theorem shared_pos {a p : List UInt8} (ha : a ≠ []) (hp : p ≠ []) (h : hdB a = hdB p) : 0 < sharedL a p := by
 obtain ⟨x, r, rfl⟩ := head_of_ne ha
 obtain ⟨y, s, rfl⟩ := head_of_ne hp
 simp only [hdB, List.headD_cons] at h
 have : x = y := UInt8.toNat_inj.1 (by omega)
 simp [sharedL, this]
def kidsOk (l : List Nd) (n : Nat) : Prop := (∀ t ∈ l, okT t n = true) /\ l.Pairwise fun a b => hdB a.lab < hdB b.lab
theorem okL_iff : ∀ {l : List Nd} {n : Nat} {f : Int}, okL l n f = true ↔ kidsOk l n /\ ∀ t ∈ l, f < hdB t.lab
 | [], n, f => by simp [okL, kidsOk]
 | t :: r, n, f => by
   simp only [okL, Bool.and_eq_true, decide_eq_true_eq, okL_iff (l := r), kidsOk, List.mem_cons, forall_eq_or_imp, List.pairwise_cons]
   constructor
   · rintro ⟨⟨h1, h2⟩, ⟨h3, h4⟩, h5⟩
     exact ⟨⟨⟨h1, h3⟩, h5, h4⟩, h2, fun x hx => by have := h5 x hx; omega⟩
   · rintro ⟨⟨⟨h1, h3⟩, h5, h4⟩, h2, _⟩
     exact ⟨⟨h1, h2⟩, ⟨h3, h4⟩, h5⟩
theorem okL_iff' {l : List Nd} {n : Nat} : okL l n (-1) = true ↔ kidsOk l n := by
 rw [okL_iff]
 exact ⟨fun h => h.1, fun h => ⟨h, fun t _ => by have := (hdB_lt t.lab).1; omega⟩⟩
theorem kidsOk_sub {l m : List Nd} {n : Nat} (h : kidsOk l n) (hs : m.Sublist l) : kidsOk m n := ⟨fun t ht => h.1 t (hs.subset ht), h.2.sublist hs⟩
theorem kidsOk_set {l : List Nd} {n i : Nat} {k : Nd} (h : kidsOk l n) (hi : i < l.length) (hk : okT k n = true) (hh : hdB k.lab = hdB l[i].lab) : kidsOk (l.set i k) n := by
 refine ⟨fun t ht => ?_, ?_⟩
 · rcases List.mem_or_eq_of_mem_set ht with h1 | h1
   · exact h.1 t h1
   · rw [h1]; exact hk
 · rw [List.pairwise_iff_getElem] at *
   intro a b ha hb hab
   have h2 := h.2
   rw [List.pairwise_iff_getElem] at h2
   rw [List.length_set] at ha hb
   have := h2 a b ha hb hab
   simp only [List.getElem_set]
   split <;> split <;> simp_all
theorem kidsOk_ins {l : List Nd} {n i : Nat} {k : Nd} (h : kidsOk l n) (hk : okT k n = true) (h1 : ∀ t ∈ l.take i, hdB t.lab < hdB k.lab) (h2 : ∀ t ∈ l.drop i, hdB k.lab < hdB t.lab) : kidsOk (l.take i ++ k :: l.drop i) n := by
 refine ⟨fun t ht => ?_, ?_⟩
 · rcases List.mem_append.1 ht with h3 | h3
   · exact h.1 t (List.mem_of_mem_take h3)
   · rcases List.mem_cons.1 h3 with rfl | h3
     · exact hk
     · exact h.1 t (List.mem_of_mem_drop h3)
 · rw [List.pairwise_append, List.pairwise_cons]
   refine ⟨h.2.sublist (List.take_sublist _ _), ⟨h2, h.2.sublist (List.drop_sublist _ _)⟩, fun a ha b hb => ?_⟩
   rcases List.mem_cons.1 hb with rfl | hb
   · exact h1 a ha
   · have := h1 a ha; have := h2 b hb; omega
theorem okT_iff {t : Nd} {n : Nat} : okT t n = true ↔ t.lab ≠ [] /\ t.lab.length <= n /\ right t.rows = true /\ (t.rows ≠ [] \/ 2 <= t.kids.length) /\ kidsOk t.kids (n - t.lab.length) := by
 rw [okT_eq]
 simp only [Bool.and_eq_true, decide_eq_true_eq, Bool.or_eq_true, okL_iff', and_assoc]
theorem hdB_app {a b : List UInt8} (h : a ≠ []) : hdB (a ++ b) = hdB a := by
 obtain ⟨x, r, rfl⟩ := head_of_ne h; rfl
theorem hdB_take {a : List UInt8} {n : Nat} (h : 0 < n) : hdB (a.take n) = hdB a := by
 cases a with
 | nil => simp
 | cons x r => cases n with
   | zero => omega
   | succ n => rfl
theorem entL_hd {l : List Nd} {n : Nat} (h : kidsOk l n) {e : Ent} (he : e ∈ entL l) : e.1 ≠ [] /\ ∃ t ∈ l, hdB e.1 = hdB t.lab := by
 obtain ⟨t, ht, s, hs⟩ := entL_pre he
 have hne := (okT_iff.1 (h.1 t ht)).1
 refine ⟨by rw [hs]; simp [hne], t, ht, by rw [hs, hdB_app hne]⟩
theorem joinN_ok {u : Nd} {n : Nat} (h0 : u.lab ≠ []) (h1 : u.lab.length <= n) (h2 : right u.rows = true) (h3 : kidsOk u.kids (n - u.lab.length)) :
   match joinN u with
   | some k => okT k n = true /\ hdB k.lab = hdB u.lab /\ entT k = entT u
   | none => entT u = [] := by
 unfold joinN
 by_cases c : u.rows ≠ [] \/ 2 <= u.kids.length
 · rw [if_pos c]
   exact ⟨okT_iff.2 ⟨h0, h1, h2, c, h3⟩, rfl, rfl⟩
 · rw [if_neg c]
   have c1 : u.rows = [] := by
     by_cases e : u.rows = []
     · exact e
     · exact absurd (.inl e) c
   cases hk : u.kids with
   | nil => simp only; rw [entT_eq, c1, hk]; simp [entL]
   | cons k r =>
     have : r = [] := by
       cases r with
       | nil => rfl
       | cons x y => exact absurd (.inr (by rw [hk]; simp)) c
     subst this
     simp only
     rw [hk] at h3
     obtain ⟨g1, g2, g3, g4, g5⟩ := okT_iff.1 (h3.1 k (by simp))
     refine ⟨okT_iff.2 ⟨by simp [Nd.lab_node, h0], ?_, g3, g4, ?_⟩, ?_, ?_⟩
     · simp only [Nd.lab_node, List.length_append] at g2 ⊢; omega
     · simp only [Nd.lab_node, Nd.kids_node, List.length_append] at g5 ⊢
       rw [<- Nat.sub_sub]; exact g5
     · simp only [Nd.lab_node]; exact hdB_app h0
     · rw [entT_B, entT_B u, entB, entB, c1, hk]
       simp only [Nd.rows_node, Nd.kids_node, Nd.lab_node, entL, List.append_nil]
       rw [entT_B k]
       simp [ownB, entB, List.map_append, Function.comp_def]
theorem downN_ok {k : Nd} {n : Nat} {p : List UInt8} (h : okT k n = true) (hs : 0 < sharedL k.lab p) :
   (downN k p).lab = p.take (sharedL k.lab p) /\ (downN k p).lab ≠ [] /\ hdB (downN k p).lab = hdB k.lab /\ (downN k p).lab.length = sharedL k.lab p /\ right (downN k p).rows = true /\ kidsOk (downN k p).kids (n - sharedL k.lab p) /\ entT (downN k p) = entT k := by
 obtain ⟨g1, g2, g3, g4, g5⟩ := okT_iff.1 h
 obtain ⟨s1, s2, s3⟩ := shared_split k.lab p
 unfold downN
 split
 · rename_i c
   have hne : k.lab.take (sharedL k.lab p) ≠ [] := by
     intro e; have := congrArg List.length e; rw [List.length_take, List.length_nil] at this; omega
   refine ⟨s1, hne, hdB_take hs, by simp only [splitN, Nd.lab_node, List.length_take]; omega, rfl, ⟨fun t ht => ?_, List.pairwise_singleton _ _⟩, ?_⟩
   · simp only [splitN, Nd.kids_node, List.mem_singleton] at ht
     subst ht
     refine okT_iff.2 ⟨?_, ?_, g3, g4, ?_⟩
     · simp only [Nd.lab_node]
       intro e; have := congrArg List.length e; rw [List.length_drop, List.length_nil] at this; omega
     · simp only [Nd.lab_node, List.length_drop]; omega
     · simp only [Nd.lab_node, Nd.kids_node, List.length_drop]
       rw [show n - sharedL k.lab p - (k.lab.length - sharedL k.lab p) = n - k.lab.length by omega]; exact g5
   · rw [entT_B, entT_B k]
     simp only [splitN, entB, Nd.rows_node, Nd.kids_node, Nd.lab_node, entL, List.append_nil]
     rw [entT_B]
     simp only [entB, ownB, Nd.rows_node, Nd.kids_node, Nd.lab_node, if_true, List.nil_append, List.map_map]
     refine List.map_congr_left fun e _ => ?_
     simp only [Function.comp]
     rw [<- List.append_assoc, List.take_append_drop]
 · have c : sharedL k.lab p = k.lab.length := by omega
   rw [c] at s1 ⊢
   rw [List.take_length] at s1
   exact ⟨s1, g1, rfl, rfl, g3, g5, rfl⟩
theorem insE_own {rs : List Row} {l : List Ent} {b : UInt8} {q : List UInt8} {r : List Row} : insE (ownB rs ++ l) (b :: q) r = ownB rs ++ insE l (b :: q) r := by
 refine insE_lt fun e he => ?_
 unfold ownB at he
 split at he
 · simp at he
 · simp only [List.mem_singleton] at he; subst he; rfl
theorem entB_node (a : Bys) (rs : List Row) (ks : List Nd) : entB (.node a rs ks) = ownB rs ++ entL ks := rfl
theorem hdB_cons (b : UInt8) (q : Bys) : hdB (b :: q) = (b.toNat : Int) := rfl
theorem putN_ok : ∀ (f : Nat) (t : Nd) (p : Bys) (rs : List Row) (n : Nat), p.length < f -> kidsOk t.kids n -> p.length <= n -> right rs = true -> right t.rows = true →
   (putN f t p rs).lab = t.lab /\ right (putN f t p rs).rows = true /\ kidsOk (putN f t p rs).kids n /\ (p ≠ [] -> (putN f t p rs).rows = t.rows) /\ entB (putN f t p rs) = insE (entB t) p rs
 | 0, t, p, rs, n, h, _, _, _, _ => by omega
 | f + 1, t, [], rs, n, hf, hk, hp, hr, ht => by
   refine ⟨rfl, hr, hk, fun h => absurd rfl h, ?_⟩
   simp only [putN, entB_node]
   have hgt : ∀ e ∈ entL t.kids, Op.bytesLess [] e.1 = true := fun e he => by
     obtain ⟨b, q, hb⟩ := head_of_ne (entL_hd hk he).1
     rw [hb]; rfl
   rw [entB]
   unfold ownB
   by_cases c : t.rows = []
   · rw [if_pos c, List.nil_append, insE_gt hgt]
   · rw [if_neg c]
     show _ = insE (([], t.rows) :: entL t.kids) [] rs
     rw [insE]
     by_cases c2 : rs = []
     · simp [Op.bytesLess, c2]
     · simp [Op.bytesLess, c2]
 | f + 1, t, b :: q, rs, n, hf, hk, hp, hr, ht => by
   have hrise : riseK t.kids := (okL_rise (okL_iff'.2 hk)).1
   obtain ⟨p1, p2⟩ := posK_find hrise (b.toNat : Int)
   have hple := posK_le t.kids (b.toNat : Int)
   have hne : b :: q ≠ [] := by simp
   generalize hi : posK t.kids (b.toNat : Int) = i at *
   have hA : ∀ e ∈ entL (t.kids.take i), Op.bytesLess e.1 (b :: q) = true := fun e he => by
     obtain ⟨e1, u, hu, e2⟩ := entL_hd (kidsOk_sub hk (List.take_sublist _ _)) he
     refine bl_hd e1 hne ?_
     obtain ⟨j, hj, rfl⟩ := List.getElem_of_mem hu
     rw [List.length_take] at hj
     rw [e2, hdB_cons, List.getElem_take]
     have := p1 j (by omega)
     rwa [getD_at' (by omega)] at this
   have hB : ∀ (m : Nat), i <= m -> (∀ h : m < t.kids.length, (b.toNat : Int) < hdB t.kids[m].lab) -> ∀ e ∈ entL (t.kids.drop m), Op.bytesLess (b :: q) e.1 = true := fun m hm hm2 e he => by
     obtain ⟨e1, u, hu, e2⟩ := entL_hd (kidsOk_sub hk (List.drop_sublist _ _)) he
     refine bl_hd hne e1 ?_
     obtain ⟨j, hj, rfl⟩ := List.getElem_of_mem hu
     rw [List.length_drop] at hj
     rw [e2, hdB_cons, List.getElem_drop]
     cases j with
     | zero => exact hm2 (by omega)
     | succ j =>
       have h1 := hm2 (by omega)
       have h2 := hrise m (m + (j + 1)) (by omega) (by omega)
       rw [getD_at' (by omega), getD_at' (by omega)] at h2
       omega
   simp only [putN, hi]
   by_cases c1 : hitK t.kids (b.toNat : Int) = true
   · rw [if_pos c1]
     unfold hitK at c1
     rw [hi] at c1
     simp only [Bool.and_eq_true, decide_eq_true_eq] at c1
     obtain ⟨c1, c2⟩ := c1
     rw [getD_at' c1] at c2 ⊢
     have hko := hk.1 _ (List.getElem_mem c1)
     obtain ⟨g1, g2, g3, g4, g5⟩ := okT_iff.1 hko
     have hsp : 0 < sharedL t.kids[i].lab (b :: q) := shared_pos g1 hne (by rw [c2, hdB_cons])
     obtain ⟨s1, s2, s3⟩ := shared_split t.kids[i].lab (b :: q)
     have hsplit : t.kids = t.kids.take i ++ t.kids[i] :: t.kids.drop (i + 1) := by
       rw [<- List.drop_eq_getElem_cons c1, List.take_append_drop]
     have hB' := hB (i + 1) (by omega) (fun h => by
       have h2 := hrise i (i + 1) (by omega) h
       rw [getD_at' c1, getD_at' h] at h2; omega)
     have hent : insE (entL t.kids) (b :: q) rs = entL (t.kids.take i) ++ (insE (entT t.kids[i]) (b :: q) rs ++ entL (t.kids.drop (i + 1))) := by
       conv => lhs; rw [hsplit, entL_app, entL]
       rw [insE_lt hA, insE_mid hB']
     by_cases c3 : sharedL t.kids[i].lab (b :: q) < t.kids[i].lab.length /\ rs = []
     · rw [if_pos c3]
       refine ⟨rfl, ht, hk, fun _ => rfl, ?_⟩
       obtain ⟨c3, rfl⟩ := c3
       rw [entB, insE_own, insE_absent (l := entL t.kids)]
       intro e he hh
       rw [hsplit, entL_app, entL] at he
       rcases List.mem_append.1 he with he | he
       · exact bl_ne (hA e he) hh
       rcases List.mem_append.1 he with he | he
       · obtain ⟨s, hs⟩ := entT_pre _ e he
         exact shared_next _ _ c3 ⟨s, by rw [<- hs, hh]⟩
       · exact bl_ne (hB' e he) hh.symm
     · rw [if_neg c3]
       obtain ⟨d1, d2, d3, d4, d5, d6, d7⟩ := downN_ok hko hsp
       obtain ⟨r1, r2, r3, _, r5⟩ := putN_ok f (downN t.kids[i] (b :: q)) ((b :: q).drop (sharedL t.kids[i].lab (b :: q))) rs (n - sharedL t.kids[i].lab (b :: q)) (by rw [List.length_drop]; omega) d6 (by rw [List.length_drop]; omega) hr d5
       generalize putN f (downN t.kids[i] (b :: q)) ((b :: q).drop (sharedL t.kids[i].lab (b :: q))) rs = u at *
       have hpu : insE (entT t.kids[i]) (b :: q) rs = entT u := by
         rw [<- d7, entT_B, entT_B u, r5, r1, <- insE_map, d1, List.take_append_drop]
       have hj := joinN_ok (u := u) (n := n) (by rw [r1]; exact d2) (by rw [r1, d4]; omega) r2 (by rw [r1, d4]; exact r3)
       have hfin : insE (entB t) (b :: q) rs = ownB t.rows ++ (entL (t.kids.take i) ++ (entT u ++ entL (t.kids.drop (i + 1)))) := by rw [entB, insE_own, hent, hpu]
       cases hju : joinN u with
       | none =>
         rw [hju] at hj
         refine ⟨rfl, ht, kidsOk_sub hk ?_, fun _ => rfl, ?_⟩
         · conv => rhs; rw [hsplit]
           exact List.Sublist.append (List.Sublist.refl _) (List.sublist_cons_self _ _)
         · simp only at hj
           rw [hfin, hj, setN, entB_node, entL_app]; simp
       | some k =>
         rw [hju] at hj
         obtain ⟨j1, j2, j3⟩ := hj
         refine ⟨rfl, ht, kidsOk_set hk c1 j1 (by rw [j2, r1, d3]), fun _ => rfl, ?_⟩
         rw [hfin, setN, entB_node, <- j3]
         have : t.kids.set i k = t.kids.take i ++ k :: t.kids.drop (i + 1) := by
           rw [List.set_eq_take_append_cons_drop, if_pos c1]
         rw [this, entL_app, entL]
   · rw [if_neg c1]
     have hB' := hB i (Nat.le_refl _) (fun h => by
       have h2 := p2 i (Nat.le_refl _) h
       rw [getD_at' h] at h2
       have : hdB t.kids[i].lab ≠ (b.toNat : Int) := fun e => c1 (by unfold hitK; rw [hi, getD_at' h]; simp [h, e])
       omega)
     have hent : insE (entL t.kids) (b :: q) rs = entL (t.kids.take i) ++ ((if rs = [] then [] else [(b :: q, rs)]) ++ entL (t.kids.drop i)) := by
       conv => lhs; rw [<- List.take_append_drop i t.kids, entL_app]
       rw [insE_lt hA, insE_gt hB']
     by_cases c2 : rs = []
     · rw [if_pos c2]
       refine ⟨rfl, ht, hk, fun _ => rfl, ?_⟩
       rw [entB, insE_own, hent, if_pos c2, List.nil_append, <- entL_app, List.take_append_drop]
     · rw [if_neg c2]
       refine ⟨rfl, ht, kidsOk_ins hk (okT_iff.2 ⟨hne, hp, hr, .inl c2, by simp [kidsOk, Nd.kids_node]⟩) (fun u hu => ?_) (fun u hu => ?_), fun _ => rfl, ?_⟩
       · obtain ⟨j, hj, rfl⟩ := List.getElem_of_mem hu
         rw [List.length_take] at hj
         rw [List.getElem_take]
         have := p1 j (by omega)
         rwa [getD_at' (by omega)] at this
       · obtain ⟨j, hj, rfl⟩ := List.getElem_of_mem hu
         rw [List.length_drop] at hj
         rw [List.getElem_drop]
         simp only [Nd.lab_node, hdB_cons]
         have h2 := p2 (i + j) (by omega) (by omega)
         rw [getD_at' (by omega)] at h2
         have : hdB t.kids[i + j].lab ≠ (b.toNat : Int) := fun e => by
           cases j with
           | zero => exact c1 (by unfold hitK; rw [hi, getD_at' (by omega)]; simp at e ⊢; exact ⟨by omega, e⟩)
           | succ j =>
             have h3 := hrise i (i + (j + 1)) (by omega) (by omega)
             have h4 := p2 i (Nat.le_refl _) (by omega)
             rw [getD_at' (i := i + (j + 1)) (by omega)] at h3
             omega
         omega
       · rw [show insE (entB t) (b :: q) rs = ownB t.rows ++ insE (entL t.kids) (b :: q) rs from insE_own, hent, if_neg c2, entB_node, entL_app, entL, entT_eq]
         simp [Nd.lab_node, Nd.rows_node, Nd.kids_node, entL, c2]
def putR (t : Nd) (p : Bys) (rs : List Row) : Nd := putN (p.length + 1) t p rs
theorem okR_iff {t : Nd} : okR t = true ↔ t.lab = [] /\ t.rows = [] /\ kidsOk t.kids 24 := by
 unfold okR
 simp only [Bool.and_eq_true, decide_eq_true_eq, okL_iff', and_assoc]
def entR (t : Nd) : List Ent := entL t.kids
theorem putR_ok {t : Nd} {p : List UInt8} {rs : List Row} (h : okR t = true) (h1 : p ≠ []) (h2 : p.length <= 24) (h3 : right rs = true) :
   okR (putR t p rs) = true /\ entR (putR t p rs) = insE (entR t) p rs := by
 obtain ⟨g1, g2, g3⟩ := okR_iff.1 h
 obtain ⟨r1, r2, r3, r4, r5⟩ := putN_ok (p.length + 1) t p rs 24 (by omega) g3 h2 h3 (by rw [g2]; rfl)
 refine ⟨okR_iff.2 ⟨r1.trans g1, (r4 h1).trans g2, r3⟩, ?_⟩
 unfold entB at r5
 rw [r4 h1, g2] at r5
 exact r5
end Go.Proofs.YtgaabjmbnomimaaDoor
namespace Go.Proofs.YtgaabjmbnomimaaDoor
open Go Go.Ev
def at0 (p : Bys) (n : Nat) : UInt8 := p.getD n 0
def commonF (l : List Ent) : Nat -> Nat -> Nat
 | 0, n => n
 | f + 1, n => if n >= (l.headD default).1.length \/ n >= 24 then n else if (l.all fun e => decide (n < e.1.length) && decide (at0 e.1 n = at0 (l.headD default).1 n)) = true then commonF l f (n + 1) else n
def commonL (l : List Ent) (n : Nat) : Nat := commonF l 25 n
def grp (l : List Ent) (b : UInt8) (n : Nat) : Nat := (l.takeWhile fun e => decide (at0 e.1 n = b)).length
mutual
def nodeF : Nat -> List Ent -> Nat -> Nd
 | 0, _, _ => default
 | f + 1, l, n =>
   if (l.headD default).1.length = commonL l n then .node (((l.headD default).1.take (commonL l n)).drop n) (l.headD default).2 (belowF f l.tail (commonL l n))
   else .node (((l.headD default).1.take (commonL l n)).drop n) [] (belowF f l (commonL l n))
def belowF : Nat -> List Ent -> Nat -> List Nd
 | 0, _, _ => []
 | _ + 1, [], _ => []
 | f + 1, e :: r, n => nodeF f ((e :: r).take (grp (e :: r) (at0 e.1 n) n)) n :: belowF f ((e :: r).drop (grp (e :: r) (at0 e.1 n) n)) n
end
def pre' (q : Bys) (l : List Ent) : List Ent := l.map fun e => (q ++ e.1, e.2)
theorem pre'_app (q : Bys) (a b : List Ent) : pre' q (a ++ b) = pre' q a ++ pre' q b := List.map_append
theorem entT_pre' (q : Bys) (t : Nd) : pre' q (entT t) = pre' (q ++ t.lab) (entB t) := by
 rw [entT_B]; simp [pre', Function.comp_def]
theorem at0_app (q s : Bys) : at0 (q ++ s) q.length = at0 s 0 := by simp [at0, List.getD_eq_getElem?_getD, List.getElem?_append_right]
theorem at0_hd {s t : List UInt8} (h : hdB s = hdB t) : at0 s 0 = at0 t 0 := by
 unfold hdB at h
 have : s.headD 0 = t.headD 0 := UInt8.toNat_inj.1 (by omega)
 cases s <;> cases t <;> simpa [at0] using this
theorem at0_ne {s t : List UInt8} (h : hdB s ≠ hdB t) : at0 s 0 ≠ at0 t 0 := fun e => h (by
 unfold hdB
 have : s.headD 0 = t.headD 0 := by cases s <;> cases t <;> simpa [at0] using e
 rw [this])
mutual
theorem entT_some : ∀ (t : Nd) (n : Nat), okT t n = true -> entT t ≠ []
 | .node lab rs ks, n, h => by
   obtain ⟨_, _, _, g4, g5⟩ := okT_iff.1 h
   simp only [Nd.rows_node, Nd.kids_node, Nd.lab_node] at g4 g5
   rw [entT]
   by_cases c : rs = []
   · rw [if_pos c]
     have h2 : 2 <= ks.length := by rcases g4 with g | g; exact absurd c g; exact g
     have := entL_some ks _ g5 (by intro e; rw [e] at h2; simp at h2)
     simpa using this
   · rw [if_neg c]; simp
theorem entL_some : ∀ (l : List Nd) (n : Nat), kidsOk l n -> l ≠ [] -> entL l ≠ []
 | [], _, _, h => absurd rfl h
 | t :: r, n, h, _ => by
   have := entT_some t n (h.1 t (by simp))
   simp [entL, this]
end
theorem commonF_go (l : List Ent) (m : Nat) (hl : ∀ e ∈ l, m <= e.1.length) (hm : m <= 24) (hne : l ≠ []) (hsame : ∀ n, n < m -> ∀ e ∈ l, at0 e.1 n = at0 (l.headD default).1 n)
   (hstop : (l.headD default).1.length = m \/ m = 24 \/ ∃ e ∈ l, e.1.length <= m \/ at0 e.1 m ≠ at0 (l.headD default).1 m) : ∀ (f n : Nat), n <= m -> m < n + f -> commonF l f n = m
 | 0, n, h1, h2 => by omega
 | f + 1, n, h1, h2 => by
   have hd : (l.headD default) ∈ l := by cases l with | nil => exact absurd rfl hne | cons a r => simp
   rw [commonF]
   rcases Nat.lt_or_ge n m with hlt | hge
   · have h3 := hl _ hd
     rw [if_neg (by omega), if_pos]
     · exact commonF_go l m hl hm hne hsame hstop f (n + 1) hlt (by omega)
     · rw [List.all_eq_true]
       intro e he
       have := hl e he
       simp only [Bool.and_eq_true, decide_eq_true_eq]
       exact ⟨by omega, hsame n hlt e he⟩
   · obtain rfl : n = m := by omega
     split
     · rfl
     · rename_i c
       rw [if_neg]
       rw [List.all_eq_true]
       intro hall
       rcases hstop with h | h | ⟨e, he, h⟩
       · omega
       · omega
       · have := hall e he
         simp only [Bool.and_eq_true, decide_eq_true_eq] at this
         rcases h with h | h
         · omega
         · exact h this.2
theorem at0_pre {q s : List UInt8} {n : Nat} (h : n < q.length) : at0 (q ++ s) n = at0 q n := by
 simp [at0, List.getD_eq_getElem?_getD, List.getElem?_append_left h]
mutual
def sizeT : Nd -> Nat
 | .node _ _ ks => sizeL ks + 2
def sizeL : List Nd -> Nat
 | [] => 1
 | t :: r => sizeT t + sizeL r + 1
end
mutual
theorem nodeF_ent : ∀ (t : Nd) (q : Bys) (f n : Nat), okT t n = true -> q.length + n <= 24 -> sizeT t <= f -> nodeF f (pre' q (entT t)) q.length = t
 | .node lab rs ks, q, f, n, h, hq, hf => by
   obtain ⟨g1, g2, g3, g4, g5⟩ := okT_iff.1 h
   simp only [Nd.rows_node, Nd.kids_node, Nd.lab_node] at g1 g2 g3 g4 g5
   rw [sizeT] at hf
   obtain ⟨f, rfl⟩ : ∃ k, f = k + 1 := ⟨f - 1, by omega⟩
   have hl : pre' q (entT (.node lab rs ks)) = pre' (q ++ lab) (ownB rs ++ entL ks) := by rw [entT_pre']; rfl
   have hne : pre' q (entT (.node lab rs ks)) ≠ [] := by
     have := entT_some _ _ h
     simpa [pre'] using this
   have hlen : ∀ e ∈ pre' q (entT (.node lab rs ks)), ∃ s, e.1 = (q ++ lab) ++ s := by
     rw [hl]
     intro e he
     simp only [pre', List.mem_map] at he
     obtain ⟨x, _, rfl⟩ := he
     exact ⟨x.1, rfl⟩
   have hd : ((pre' q (entT (.node lab rs ks))).headD default) ∈ pre' q (entT (.node lab rs ks)) := by
     cases hx : pre' q (entT (.node lab rs ks)) with | nil => exact absurd hx hne | cons a r => simp
   obtain ⟨s0, hs0⟩ := hlen _ hd
   have hkl : ∀ {k : Nd} {r : List Nd}, ks = k :: r -> ∃ x xs, entL ks = x :: xs /\ hdB x.1 = hdB k.lab /\ x.1 ≠ [] := fun {k r} hk => by
     have h1 := entT_some k _ (g5.1 k (by rw [hk]; simp))
     cases hx : entT k with
     | nil => exact absurd hx h1
     | cons x xs =>
       obtain ⟨s, hs⟩ := entT_pre k x (by rw [hx]; simp)
       have hkn := (okT_iff.1 (g5.1 k (by rw [hk]; simp))).1
       exact ⟨x, xs ++ entL r, by rw [hk, entL, hx]; rfl, by rw [hs, hdB_app hkn], by rw [hs]; simp [hkn]⟩
   have hcom : commonL (pre' q (entT (.node lab rs ks))) q.length = (q ++ lab).length := by
     refine commonF_go _ _ (fun e he => ?_) (by simp; omega) hne (fun n hn e he => ?_) ?_ 25 q.length (by simp) (by simp; omega)
     · obtain ⟨s, hs⟩ := hlen e he
       rw [hs]; simp
     · obtain ⟨s, hs⟩ := hlen e he
       rw [hs, hs0, at0_pre hn, at0_pre hn]
     · by_cases c : rs = []
       · have h2 : 2 <= ks.length := by rcases g4 with g | g; exact absurd c g; exact g
         match ks, h2 with
         | k1 :: k2 :: r, _ =>
           obtain ⟨x, xs, e1, e2, e3⟩ := hkl rfl
           have h3 := entT_some k2 _ (g5.1 k2 (by simp))
           cases hy : entT k2 with
           | nil => exact absurd hy h3
           | cons y ys =>
             obtain ⟨s, hs⟩ := entT_pre k2 y (by rw [hy]; simp)
             have hkn := (okT_iff.1 (g5.1 k2 (by simp))).1
             have hlt : hdB k1.lab < hdB k2.lab := by have := g5.2; rw [List.pairwise_cons] at this; exact this.1 k2 (by simp)
             refine .inr (.inr ⟨((q ++ lab) ++ y.1, y.2), ?_, .inr ?_⟩)
             · rw [hl]
               refine List.mem_map_of_mem (f := fun e : Ent => ((q ++ lab) ++ e.1, e.2)) ?_
               rw [List.mem_append]; right
               simp [entL, hy]
             · have e0 : (pre' q (entT (.node lab rs (k1 :: k2 :: r)))).headD default = ((q ++ lab) ++ x.1, x.2) := by
                 rw [hl, c]
                 simp [ownB, e1, pre']
               rw [e0]
               simp only
               rw [at0_app, at0_app]
               refine at0_ne ?_
               rw [e2, hs, hdB_app hkn]; omega
       · left
         rw [hl, ownB, if_neg c]
         simp [pre']
   have hcl : (((pre' q (entT (.node lab rs ks))).headD default).1.take (q ++ lab).length).drop q.length = lab := by
     rw [hs0, List.take_left']
     · simp
     · rfl
   rw [nodeF, hcom, hcl]
   by_cases c : rs = []
   · have h2 : 2 <= ks.length := by rcases g4 with g | g; exact absurd c g; exact g
     have hks : ks ≠ [] := by intro e; rw [e] at h2; simp at h2
     obtain ⟨k, r, hk⟩ : ∃ k r, ks = k :: r := by cases ks with | nil => exact absurd rfl hks | cons k r => exact ⟨k, r, rfl⟩
     obtain ⟨x, xs, e1, e2, e3⟩ := hkl hk
     have e0 : pre' q (entT (.node lab rs ks)) = pre' (q ++ lab) (entL ks) := by rw [hl, c]; rfl
     rw [if_neg, e0, belowF_ent ks (q ++ lab) f (n - lab.length) g5 (by simp; omega) (by omega), c]
     rw [e0, e1]
     simp only [pre', List.map_cons, List.headD_cons, List.length_append]
     have := List.length_pos_iff.2 e3
     omega
   · have e0 : pre' q (entT (.node lab rs ks)) = (q ++ lab, rs) :: pre' (q ++ lab) (entL ks) := by
       rw [hl, ownB, if_neg c]; simp [pre']
     rw [e0]
     simp only [List.headD_cons, List.tail_cons, if_true]
     rw [belowF_ent ks (q ++ lab) f (n - lab.length) g5 (by simp; omega) (by omega)]
theorem belowF_ent : ∀ (l : List Nd) (q : Bys) (f n : Nat), kidsOk l n -> q.length + n <= 24 -> sizeL l <= f -> belowF f (pre' q (entL l)) q.length = l
 | [], q, f, n, _, _, hf => by
   rw [sizeL] at hf
   obtain ⟨f, rfl⟩ : ∃ k, f = k + 1 := ⟨f - 1, by omega⟩
   rfl
 | t :: r, q, f, n, h, hq, hf => by
   rw [sizeL] at hf
   obtain ⟨f, rfl⟩ : ∃ k, f = k + 1 := ⟨f - 1, by omega⟩
   have hT := h.1 t (by simp)
   have hne := (okT_iff.1 hT).1
   have hr : kidsOk r n := kidsOk_sub h (List.sublist_cons_self _ _)
   have hlt : ∀ k ∈ r, hdB t.lab < hdB k.lab := by have := h.2; rw [List.pairwise_cons] at this; exact this.1
   have h1 := entT_some t n hT
   have hA : ∀ e ∈ pre' q (entT t), at0 e.1 q.length = at0 t.lab 0 := fun e he => by
     simp only [pre', List.mem_map] at he
     obtain ⟨x, hx, rfl⟩ := he
     obtain ⟨s, hs⟩ := entT_pre t x hx
     simp only
     rw [at0_app]
     exact at0_hd (by rw [hs, hdB_app hne])
   have hB : ∀ e ∈ pre' q (entL r), at0 e.1 q.length ≠ at0 t.lab 0 := fun e he => by
     simp only [pre', List.mem_map] at he
     obtain ⟨x, hx, rfl⟩ := he
     obtain ⟨_, k, hk, hs⟩ := entL_hd hr hx
     simp only
     rw [at0_app]
     refine at0_ne ?_
     have := hlt k hk
     omega
   have hp : pre' q (entL (t :: r)) = pre' q (entT t) ++ pre' q (entL r) := by rw [entL, pre'_app]
   cases hx : pre' q (entT t) with
   | nil => simp [pre'] at hx; exact absurd hx h1
   | cons e es =>
     have hg : grp (pre' q (entL (t :: r))) (at0 e.1 q.length) q.length = (pre' q (entT t)).length := by
       rw [hp]
       unfold grp
       rw [hA e (by rw [hx]; simp), List.takeWhile_append_of_pos (fun a ha => by simpa using hA a ha)]
       have : (pre' q (entL r)).takeWhile (fun e => decide (at0 e.1 q.length = at0 t.lab 0)) = [] := by
         cases hy : pre' q (entL r) with
         | nil => rfl
         | cons y ys => rw [List.takeWhile_cons_of_neg (by simpa using hB y (by rw [hy]; simp))]
       rw [this]; simp
     have hc : pre' q (entL (t :: r)) = e :: (es ++ pre' q (entL r)) := by rw [hp, hx]; rfl
     have hgo : belowF (f + 1) (pre' q (entL (t :: r))) q.length = nodeF f ((pre' q (entL (t :: r))).take (pre' q (entT t)).length) q.length :: belowF f ((pre' q (entL (t :: r))).drop (pre' q (entT t)).length) q.length := by
       rw [<- hg, hc, belowF]
     rw [hgo, hp, List.take_left', List.drop_left', nodeF_ent t q f n hT hq (by omega), belowF_ent r q f n hr hq (by omega)]
     · rfl
     · rfl
end
theorem of_ent {t : Nd} (h : okR t = true) {f : Nat} (hf : sizeL t.kids <= f) : belowF f (entR t) 0 = t.kids := by
 have := belowF_ent t.kids [] f 24 (okR_iff.1 h).2.2 (by simp) hf
 simpa [pre', entR] using this
end Go.Proofs.YtgaabjmbnomimaaDoor
namespace Go.Proofs.YtgaabjmbnomimaaDoor
open Go Go.Ev
theorem s149_ok : CSpecOk E 149 s149 := fun a h cs vals h' he hc => by
 unfold s149 at he
 split at he <;> simp only [Option.some.injEq, Prod.mk.injEq, reduceCtorEq] at he
 rename_i nl tt xs
 obtain ⟨rfl, rfl, rfl⟩ := he
 simp only [allT, Bool.and_true, decide_eq_true_eq] at hc
 exact call_ext (f := x149) rfl (by simp only [x149, if_pos hc])
def s117 : CSpec := fun a h => match a, h with
 | [.agg [.c (.str s), .c (.sl 5 rn rt xs), .c (.sl 3 kn kt ys)]], [] => some ([decide (ys.length < 4294967296)], [.agg [.c (.str s), .c (.sl 5 rn rt xs), .buf 0 0 0 ys.length]], [.mem 3 0 ys])
 | _, _ => none
theorem f117 (s : Bys) (rn : OBo) (rt : Bool) (xs : LLC) (kn : OBo) (kt : Bool) (ys : LLC) (h : ys.length < 4294967296) :
   call E 117 [.agg [.c (.str s), .c (.sl 5 rn rt xs), .c (.sl 3 kn kt ys)]] [] = some ([.agg [.c (.str s), .c (.sl 5 rn rt xs), .buf 0 0 0 ys.length]], [.mem 3 0 ys]) := by
 refine call_of (E := E) (sh := sh) (ct := ctOf [(149, s149)]) (na := 1) (m := 0) (ctOf_cons s149_ok ctOf_nil) rfl rfl rfl rfl rfl rfl ?_
 rw [t117]
 simp only [fd_chk', fd_leaf, decide_true, if_true, h]
theorem s117_ok : CSpecOk E 117 s117 := by
 intro a h cs vals h' he hc
 unfold s117 at he
 split at he <;> simp only [Option.some.injEq, Prod.mk.injEq, reduceCtorEq] at he
 rename_i s rn rt xs kn kt ys
 obtain ⟨rfl, rfl, rfl⟩ := he
 simp only [allT, Bool.and_true, decide_eq_true_eq] at hc
 skip
 exact f117 s rn rt xs kn kt ys hc
theorem sharedL_drop {a b : List UInt8} {k : Nat} (ha : k < a.length) (hb : k < b.length) : sharedL (a.drop k) (b.drop k) = if a[k] = b[k] then sharedL (a.drop (k + 1)) (b.drop (k + 1)) + 1 else 0 := by
 rw [List.drop_eq_getElem_cons ha, List.drop_eq_getElem_cons hb, sharedL]
theorem sharedL_end {a b : List UInt8} {k : Nat} (h : ¬ (k < a.length /\ k < b.length)) : sharedL (a.drop k) (b.drop k) = 0 := by
 by_cases ha : k < a.length
 · have e : b.drop k = [] := List.drop_eq_nil_of_le (by omega)
   rw [e]
   cases a.drop k <;> rfl
 · have e : a.drop k = [] := List.drop_eq_nil_of_le (by omega)
   rw [e]; rfl
theorem byteEq (a b : UInt8) : ((a.toNat : Int) == (b.toNat : Int)) = decide (a = b) := by
 rw [Bool.eq_iff_iff]
 simp only [beq_iff_eq, decide_eq_true_eq]
 exact ⟨fun h => UInt8.toNat_inj.1 (by omega), fun h => by rw [h]⟩
theorem f119 (a b : Bys) (ha : a.length < 9223372036854775807) : call E 119 [.c (.str a), .c (.str b)] [] = some ([V.i (sharedL a b)], []) := by
 have hct : (ctOf []).ok E := ctOf_nil
 refine call_of (E := E) (sh := sh) (ct := ctOf []) (na := 2) (m := 0) hct rfl rfl rfl rfl rfl rfl ?_
 rw [t119]
 refine fd_post hct (by kernel_rfl) rfl (loops_post hct (b := b119_0) (ι := Nat) (fun k => s119_0 a b k) (fun k => sharedL (a.drop k) (b.drop k) + k = sharedL a b /\ k <= a.length) (fun k => a.length - k) _ ?_ 0 ⟨rfl, Nat.zero_le _⟩)
 rintro k ⟨hi, hk⟩
 rw [t119_0]
 have stop : sharedL (a.drop k) (b.drop k) = 0 -> ∃ x : Ex × Fr × Hp, x = x119_0x0 a b (k : Int) /\ p119.fd (p119.fkx 0 x) = some (R.out [V.i (sharedL a b)] []) := fun h => by
   refine ⟨_, rfl, ?_⟩
   rw [k119_0x0, fd_leaf, <- hi, h, Nat.zero_add]
 by_cases c1 : k < a.length
 · by_cases c2 : k < b.length
   · simp only [ld_br, ld_chk', ld_leaf, decide_true, decide_eq_true_eq, if_true, Int.toNat_natCast, Int.natCast_nonneg, Int.ofNat_lt, ne_eq, c1, c2, List.getD_eq_getElem?_getD, List.getElem?_eq_getElem c1, List.getElem?_eq_getElem c2, Option.getD_some, byteEq]
     rw [sharedL_drop c1 c2] at hi
     by_cases c3 : a[k] = b[k]
     · rw [if_pos c3] at hi
       exact .inl ⟨k + 1, ⟨by omega, by omega⟩, by omega, by rw [if_pos c3, wrap_succ (by omega)]⟩
     · rw [if_neg c3] at hi
       obtain ⟨x, rfl, hx⟩ := stop (by rw [sharedL_drop c1 c2, if_neg c3])
       exact .inr ⟨_, by simp, hx, by rw [if_neg c3]⟩
   · obtain ⟨x, rfl, hx⟩ := stop (sharedL_end (by omega))
     exact .inr ⟨_, by simp, hx, by simp only [ld_br, ld_chk', ld_leaf, decide_true, decide_eq_true_eq, if_true, Int.toNat_natCast, Int.natCast_nonneg, Int.ofNat_lt, if_false, beq_iff_eq, c1, c2]⟩
 · obtain ⟨x, rfl, hx⟩ := stop (sharedL_end (by omega))
   exact .inr ⟨_, by simp, hx, by simp only [ld_br, ld_chk', ld_leaf, decide_true, decide_eq_true_eq, if_true, Int.toNat_natCast, Int.natCast_nonneg, Int.ofNat_lt, if_false, beq_iff_eq, c1]⟩
def s119 : CSpec := fun a h => match a, h with
 | [.c (.str a), .c (.str b)], [] => some ([decide (a.length < 9223372036854775807)], [V.i (sharedL a b)], [])
 | _, _ => none
theorem s119_ok : CSpecOk E 119 s119 := by
 intro a h cs vals h' he hc
 unfold s119 at he
 split at he <;> simp only [Option.some.injEq, Prod.mk.injEq, reduceCtorEq] at he
 obtain ⟨rfl, rfl, rfl⟩ := he
 simp only [allT, Bool.and_true, decide_eq_true_eq] at hc
 skip
 exact f119 _ _ hc
@[reducible] def VT (t : Nd) : V := .agg [.c (.str t.lab), .c (.sl 5 none false (rows t.rows)), .c (.sl 3 none false (encL t.kids))]
def s120 : CSpec := fun a h => match a, h with
 | [.agg [.c (.str s), .c (.sl 5 none false xs), .c (.sl 3 none false ys)], .c (.int .i64 n)], [] => some ([isRows xs, isL ys, decide (0 <= n), decide (n <= s.length)], [VT (splitN (.node s (toRows xs) (decL ys)) n.toNat)], [])
 | _, _ => none
theorem f120 (s : Bys) (rs : List Row) (ks : List Nd) (n : Int) (h0 : 0 <= n) (h1 : n <= s.length) :
   call E 120 [.agg [.c (.str s), .c (.sl 5 none false (rows rs)), .c (.sl 3 none false (encL ks))], V.i n] [] = some ([VT (splitN (.node s rs ks) n.toNat)], []) := by
 refine call_of (E := E) (sh := sh) (ct := ctOf []) (na := 2) (m := 0) ctOf_nil rfl rfl rfl rfl rfl rfl ?_
 rw [t120]
 have h2 : n.toNat <= s.length := by omega
 simp only [fd_chk', fd_leaf, decide_true, if_true, List.take_length, Nat.le_refl, h0, h2]
 simp only [VT, splitN, Nd.lab_node, Nd.rows_node, Nd.kids_node, encL, Nd.enc]
 rfl
theorem s120_ok : CSpecOk E 120 s120 := by
 intro a h cs vals h' he hc
 unfold s120 at he
 split at he <;> simp only [Option.some.injEq, Prod.mk.injEq, reduceCtorEq] at he
 rename_i s xs ys n
 obtain ⟨rfl, rfl, rfl⟩ := he
 simp only [allT, Bool.and_true, Bool.and_eq_true, decide_eq_true_eq] at hc
 obtain ⟨h1, h2, h3, h4⟩ := hc
 obtain ⟨rs, rfl⟩ := rows_ex h1
 obtain ⟨ks, rfl⟩ := isL_ex h2
 simp only [toRows_rows, decL_enc]
 exact f120 s rs ks n h3 h4
def s123b : CSpec := fun a h => match a, h with
 | [.buf 0 0 0 len, .c (.int .u8 b), .fn 124 []], [.mem 3 0 xs] => some ([isL xs, decide (len = xs.length), labsOk (decL xs), decide (0 <= b), decide (b <= 255), decide (xs.length < 4294967296)], [V.i (posK (decL xs) b), V.b (hitK (decL xs) b)], [.mem 3 0 xs])
 | _, _ => none
theorem enc_len (t : Nd) : t.enc.length = 3 := by rw [Nd.enc_eq]; rfl
theorem enc_take (t : Nd) : t.enc.take 3 = t.enc := by rw [Nd.enc_eq]; rfl
theorem f123b (l : List Nd) (b : Int) (hl : labsOk l = true) (h0 : 0 <= b) (h1 : b <= 255) (hlen : l.length < 4294967296) : call E 123 [.buf 0 0 0 l.length, .c (.int .u8 b), .fn 124 []] [.mem 3 0 (encL l)] = some ([V.i (posK l b), V.b (hitK l b)], [.mem 3 0 (encL l)]) := by
 have hct : (ctOf [(124, s124)]).ok E := ctOf_cons s124_ok ctOf_nil
 refine call_of (E := E) (sh := sh) (ct := ctOf [(124, s124)]) (na := 3) (m := 1) hct rfl rfl rfl rfl rfl rfl ?_
 show p123b.fd (p123b.ft _ _) = _
 rw [t123b]
 refine fd_post hct (by kernel_rfl) rfl (loops_post (p := p123b) hct (b := b123b_0) (ι := Nat × Nat) (fun i => s123b_0 l.length (encL l) b l.length i.1 i.2) (fun i => i.1 <= i.2 /\ i.2 <= l.length /\ bsK l b (i.2 - i.1) i.1 i.2 = posK l b) (fun i => i.2 - i.1) _ ?_ (0, l.length) ⟨Nat.zero_le _, Nat.le_refl _, rfl⟩)
 rintro ⟨lo, hi⟩ ⟨g1, g2, g3⟩
 dsimp only at g1 g2 g3 ⊢
 rw [t123b_0]
 by_cases hlt : lo < hi
 · have hm : (lo + hi) / 2 < l.length := by omega
   left
   rw [half_wrap (by omega)]
   have hne := labs_mem hl hm
   simp only [nd_ok, nd_lab, encL_length, ld_br, ld_chk', ld_leaf, decide_true, decide_eq_true_eq, if_true, Int.toNat_natCast, Int.natCast_nonneg, Int.ofNat_lt, ne_eq, not_false_eq_true, Nat.zero_add, Nat.le_refl, Int.ofNat_lt, hlt, hm, encL_getD hm, hne, h0, h1, enc_len, enc_take]
   have e : hi - lo = (hi - lo - 1) + 1 := by omega
   rw [e, bsK, if_pos hlt, getD_at' hm] at g3
   by_cases hb : hdB l[(lo + hi) / 2].lab < b
   · rw [if_pos hb] at g3
     refine ⟨((lo + hi) / 2 + 1, hi), ⟨by dsimp only; omega, g2, ?_⟩, by dsimp only; omega, ?_⟩
     · rw [<- g3]; exact bsK_fuel l b _ _ _ _ (by omega) (by omega)
     · rw [wrap_succ (by omega), if_pos (show hdB l[(lo + hi) / 2].lab - b < 0 by omega)]
   · rw [if_neg hb] at g3
     refine ⟨(lo, (lo + hi) / 2), ⟨by dsimp only; omega, by dsimp only; omega, ?_⟩, by dsimp only; omega, ?_⟩
     · rw [<- g3]; exact bsK_fuel l b _ _ _ _ (by omega) (by omega)
     · rw [if_neg (show ¬ hdB l[(lo + hi) / 2].lab - b < 0 by omega)]
 · obtain rfl : lo = hi := by omega
   right
   rw [bsK_end l b _ (by omega)] at g3
   refine ⟨x123b_0x0 l.length (encL l) b l.length lo lo, by simp, ?_, by simp only [encL_length, ld_br, ld_chk', ld_leaf, decide_eq_true_eq, if_true, if_false, ne_eq, Nat.zero_add, Int.lt_irrefl]⟩
   rw [k123b_0x0]
   simp only [encL_length, fd_br, fd_chk', fd_leaf, decide_true, decide_eq_true_eq, if_true, Int.toNat_natCast, Int.natCast_nonneg, Int.ofNat_lt, ne_eq, Nat.zero_add, Int.ofNat_lt, g3, hitK]
   by_cases hr : posK l b < l.length
   · have hne := labs_mem hl hr
     have e : (hdB l[posK l b].lab - b == 0) = decide (hdB l[posK l b].lab = b) := by
       rw [Bool.eq_iff_iff]; simp; omega
     simp only [hr, if_true, encL_getD hr, nd_ok, nd_lab, decide_true, if_true, not_false_eq_true, Nat.le_refl, hne, h0, h1, e, getD_at' hr, Bool.true_and, enc_len, enc_take]
   · simp only [hr, if_false, decide_false, Bool.false_and]
theorem s123b_ok : CSpecOk E 123 s123b := by
 intro a h cs vals h' he hc
 unfold s123b at he
 split at he <;> simp only [Option.some.injEq, Prod.mk.injEq, reduceCtorEq] at he
 rename_i len b xs
 obtain ⟨rfl, rfl, rfl⟩ := he
 simp only [allT, Bool.and_true, Bool.and_eq_true, decide_eq_true_eq] at hc
 obtain ⟨h1, rfl, h2, h3, h4, h5⟩ := hc
 obtain ⟨l, rfl⟩ := isL_ex h1
 simp only [decL_enc, encL_length] at *
 exact f123b l b h2 h3 h4 h5
end Go.Proofs.YtgaabjmbnomimaaDoor
namespace Go.Proofs.YtgaabjmbnomimaaDoor
open Go Go.Ev
-- cse
noncomputable abbrev p66b : Par := par E sh (ctOf [(123, s123b)]) 66 2 1
theorem t66b (len : Nat) (xs : LLC) (b : Int) : p66b.ft ([V.buf 0 0 0 len, V.c (C.int IntKind.u8 b)]) ([O.mem 3 0 xs]) = (Tr.chk (isL xs) (Tr.chk (decide (len = xs.length)) (Tr.chk (labsOk (decL xs)) (Tr.chk (decide (0 <= b)) (Tr.chk (decide (b <= 255)) (Tr.chk (decide (xs.length < 4294967296)) (Tr.leaf (R.out [V.c (C.int IntKind.i64 (↑(posK (decL xs) b) : Int)), V.c (C.bool (hitK (decL xs) b))] [O.mem 3 0 xs])))))))) := by kernel_rfl
def s66b : CSpec := fun a h => match a, h with
 | [.buf 0 0 0 len, .c (.int .u8 b)], [.mem 3 0 xs] => some ([isL xs, decide (len = xs.length), labsOk (decL xs), decide (0 <= b), decide (b <= 255), decide (xs.length < 4294967296)], [V.i (posK (decL xs) b), V.b (hitK (decL xs) b)], [.mem 3 0 xs])
 | _, _ => none
noncomputable abbrev p121 : Par := par E sh (ctOf [(117, s117)]) 121 1 0
theorem t121 (s : Bys) (xs : LLC) (ys : LLC) : p121.ft ([V.agg [V.c (C.str s), V.c (C.sl 5 none false xs), V.c (C.sl 3 none false ys)]]) ([]) = (Tr.br (decide (0 < (↑xs.length : Int))) (Tr.leaf (R.out [V.agg [V.c (C.str s), V.c (C.sl 5 none false xs), V.c (C.sl 3 none false ys)], V.c (C.bool true)] [])) (Tr.br (decide (1 < (↑ys.length : Int))) (Tr.leaf (R.out [V.agg [V.c (C.str s), V.c (C.sl 5 none false xs), V.c (C.sl 3 none false ys)], V.c (C.bool true)] [])) (Tr.br ((↑ys.length : Int) == 0) (Tr.leaf (R.out [V.agg [V.c (C.str []), V.c (C.sl 5 none false []), V.c (C.sl 3 none false [])], V.c (C.bool false)] [])) (Tr.chk true (Tr.chk true (Tr.chk (decide (Int.toNat 0 < ys.length)) (Tr.chk (shOk [Sk.str, Sk.sl 5, Sk.sl 3] (ys.getD (Int.toNat 0) [])) (Tr.chk (decide (((ys.getD (Int.toNat 0) []).tail.tail.headD C.pnil).xs.length < 4294967296)) (Tr.chk (decide (s.length + ((ys.getD (Int.toNat 0) []).headD C.pnil).st.length < 4294967296)) (Tr.leaf (R.out [V.agg [V.c (C.str (s ++ ((ys.getD (Int.toNat 0) []).headD C.pnil).st)), V.c (C.sl 5 none false ((ys.getD (Int.toNat 0) []).tail.headD C.pnil).xs), V.c (C.sl 3 none false (List.take ((ys.getD (Int.toNat 0) []).tail.tail.headD C.pnil).xs.length ((ys.getD (Int.toNat 0) []).tail.tail.headD C.pnil).xs))], V.c (C.bool true)] []))))))))))) := by kernel_rfl
def joinB (t : Nd) : Bool := (joinN t).isSome
def joinD (t : Nd) : Nd := (joinN t).getD (.node [] [] [])
def s121 : CSpec := fun a h => match a, h with
 | [.agg [.c (.str s), .c (.sl 5 none false xs), .c (.sl 3 none false ys)]], [] => some ([isRows xs, isL ys, decide (s.length <= 24), decide (okL (decL ys) 24 (-1) = true)], [VT (joinD (.node s (toRows xs) (decL ys))), V.b (joinB (.node s (toRows xs) (decL ys)))], [])
 | _, _ => none
def s118 : CSpec := fun a h => match a, h with
 | [.buf 0 0 0 len, .c (.int .i64 i), .buf 1 0 0 1], [.mem 3 0 xs, .mem 3 0 [x]] => some ([decide (len = xs.length), decide (0 <= i), decide (i <= len), decide (len < 4294967294)], [.buf 0 1 0 (len + 1)], [.mem 3 1 (xs.take i.toNat ++ x.map wkC :: xs.drop i.toNat), .mem 3 0 [x.map wkC]])
 | _, _ => none
def s122 : CSpec := fun a h => match a, h with
 | [.buf 0 0 0 len, .c (.int .i64 i), .c (.int .i64 j)], [.mem 3 0 xs] => some ([decide (len = xs.length), decide (0 <= i), decide (i < len), decide (j = i + 1), decide (len < 4294967296)], [.buf 0 1 0 (len - 1)], [.mem 3 1 (xs.take i.toNat ++ xs.drop (i.toNat + 1))])
 | _, _ => none
variable (dd : Nat)
def s65 : CSpec := fun a h => match a, h with
 | [.agg [.c (.str s), .c (.sl 5 rn rt xs), .c (.sl 3 kn kt ys)], .c (.str p), .c (.sl 5 qn qt zs)], [] => some ([isRows xs, isL ys, isRows zs, okL (decL ys) 24 (-1), right (toRows xs), right (toRows zs), decide (s.length <= 24), decide (qn ≠ some true \/ zs = []), decide (p.length < dd), decide (p.length <= 24)], [VT (putN (p.length + 1) (.node s (toRows xs) (decL ys)) p (toRows zs))], [])
 | _, _ => none
noncomputable abbrev p65 : Par := par E sh (ctOf [(117, s117), (68, s68), (66, s66b), (118, s118), (119, s119), (120, s120), (121, s121), (122, s122), (65, s65 dd)]) 65 3 0
abbrev c65_1 (ys : LLC) (p : Bys) := (posK (decL ys) (↑(p.getD (Int.toNat 0) 0).toNat : Int))
abbrev c65_2 (ys : LLC) (p : Bys) := (List.take 3 (ys.getD (0 + (↑(c65_1 ys p) : Int).toNat) []))
abbrev c65_3 (ys : LLC) (p : Bys) := (sharedL ((c65_2 ys p).headD C.pnil).st p)
abbrev c65_4 (ys : LLC) (p : Bys) := (splitN (Nd.node ((c65_2 ys p).headD C.pnil).st (toRows ((c65_2 ys p).tail.headD C.pnil).xs) (decL ((c65_2 ys p).tail.tail.headD C.pnil).xs)) (↑(c65_3 ys p) : Int).toNat)
abbrev c65_5 (ys : LLC) (p : Bys) := (Nd.node (c65_4 ys p).lab (toRows (rows (c65_4 ys p).rows)) (decL (encL (c65_4 ys p).kids)))
abbrev c65_6 (ys : LLC) (p : Bys) := (List.drop (↑(c65_3 ys p) : Int).toNat (List.take p.length p))
abbrev c65_7 (ys : LLC) (p : Bys) (zs : LLC) := (putN ((c65_6 ys p).length + 1) (Nd.node ((c65_2 ys p).headD C.pnil).st (toRows ((c65_2 ys p).tail.headD C.pnil).xs) (decL ((c65_2 ys p).tail.tail.headD C.pnil).xs)) (c65_6 ys p) (toRows zs))
abbrev c65_8 (ys : LLC) (p : Bys) (zs : LLC) := (putN ((c65_6 ys p).length + 1) (c65_5 ys p) (c65_6 ys p) (toRows zs))
abbrev c65_9 (ys : LLC) (p : Bys) (zs : LLC) := (Nd.node (c65_8 ys p zs).lab (toRows (rows (c65_8 ys p zs).rows)) (decL (encL (c65_8 ys p zs).kids)))
abbrev c65_10 (ys : LLC) (p : Bys) (zs : LLC) := (Nd.node (c65_7 ys p zs).lab (toRows (rows (c65_7 ys p zs).rows)) (decL (encL (c65_7 ys p zs).kids)))
abbrev c65_11 (ys : LLC) (p : Bys) (zs : LLC) := (ys.set (0 + (↑(c65_1 ys p) : Int).toNat) [C.str (joinD (c65_10 ys p zs)).lab, C.sl 5 none false (rows (joinD (c65_10 ys p zs)).rows), C.sl 3 none false (encL (joinD (c65_10 ys p zs)).kids)])
abbrev c65_12 (ys : LLC) (p : Bys) (zs : LLC) := (ys.set (0 + (↑(c65_1 ys p) : Int).toNat) [C.str (joinD (c65_9 ys p zs)).lab, C.sl 5 none false (rows (joinD (c65_9 ys p zs)).rows), C.sl 3 none false (encL (joinD (c65_9 ys p zs)).kids)])
theorem t65 (s : Bys) (rn : OBo) (rt : Bool) (xs : LLC) (kn : OBo) (kt : Bool) (ys : LLC) (p : Bys) (qn : OBo) (qt : Bool) (zs : LLC) : (p65 dd).ft ([V.agg [V.c (C.str s), V.c (C.sl 5 rn rt xs), V.c (C.sl 3 kn kt ys)], V.c (C.str p), V.c (C.sl 5 qn qt zs)]) ([]) = (Tr.chk (decide (ys.length < 4294967296)) (Tr.br (p == []) (Tr.chk (decide (zs.length < 4294967296)) (Tr.chk (decide (qn ≠ some true \/ zs = [])) (Tr.leaf (R.out [V.agg [V.c (C.str s), V.c (C.sl 5 none false zs), V.c (C.sl 3 none false (List.take ys.length ys))]] [])))) (Tr.chk true (Tr.chk (decide (Int.toNat 0 < p.length)) (Tr.chk (isL ys) (Tr.chk (decide (ys.length = ys.length)) (Tr.chk (labsOk (decL ys)) (Tr.chk true (Tr.chk (decide ((↑(p.getD (Int.toNat 0) 0).toNat : Int) <= 255)) (Tr.chk (decide (ys.length < 4294967296)) (Tr.br (!hitK (decL ys) (↑(p.getD (Int.toNat 0) 0).toNat : Int)) (Tr.br (decide (0 < (↑zs.length : Int))) (Tr.chk (decide (zs.length < 4294967296)) (Tr.chk (decide (qn ≠ some true \/ zs = [])) (Tr.chk (decide (ys.length = ys.length)) (Tr.chk true (Tr.chk (decide ((↑(c65_1 ys p) : Int) <= (↑ys.length : Int))) (Tr.chk (decide (ys.length < 4294967294)) (Tr.leaf (R.out [V.agg [V.c (C.str s), V.c (C.sl 5 none false xs), V.c (C.sl 3 none false (List.take (ys.length + 1) (List.take (↑(c65_1 ys p) : Int).toNat ys ++ List.map wkC (List.take 3 [C.str p, C.sl 5 none false zs, C.sl 3 (some true) true []]) :: List.drop (↑(c65_1 ys p) : Int).toNat ys)))]] [])))))))) (Tr.leaf (R.out [V.agg [V.c (C.str s), V.c (C.sl 5 none false xs), V.c (C.sl 3 none false (List.take ys.length ys))]] []))) (Tr.chk true (Tr.chk (decide ((↑(c65_1 ys p) : Int) < (↑ys.length : Int))) (Tr.chk true (Tr.chk true (Tr.chk true (Tr.chk (decide (0 + (↑(c65_1 ys p) : Int).toNat < ys.length)) (Tr.chk (decide (3 <= (ys.getD (0 + (↑(c65_1 ys p) : Int).toNat) []).length)) (Tr.chk (shOk [Sk.str, Sk.sl 5, Sk.sl 3] (c65_2 ys p)) (Tr.chk (decide (((c65_2 ys p).headD C.pnil).st.length < 9223372036854775807)) (Tr.br (decide ((↑(c65_3 ys p) : Int) < (↑((c65_2 ys p).headD C.pnil).st.length : Int))) (Tr.br ((↑zs.length : Int) == 0) (Tr.leaf (R.out [V.agg [V.c (C.str s), V.c (C.sl 5 none false xs), V.c (C.sl 3 none false (List.take ys.length ys))]] [])) (Tr.chk (isRows ((c65_2 ys p).tail.headD C.pnil).xs) (Tr.chk (isL ((c65_2 ys p).tail.tail.headD C.pnil).xs) (Tr.chk true (Tr.chk (decide ((↑(c65_3 ys p) : Int) <= (↑((c65_2 ys p).headD C.pnil).st.length : Int))) (Tr.chk true (Tr.chk (decide ((↑(c65_3 ys p) : Int).toNat <= p.length)) (Tr.chk (decide (p.length <= p.length)) (Tr.chk true (Tr.chk (isL (encL (c65_4 ys p).kids)) (Tr.chk (isRows zs) (Tr.chk (okL (decL (encL (c65_4 ys p).kids)) 24 (-1)) (Tr.chk true (Tr.chk (right (toRows zs)) (Tr.chk (decide ((c65_4 ys p).lab.length <= 24)) (Tr.chk (decide (qn ≠ some true \/ zs = [])) (Tr.chk (decide ((c65_6 ys p).length < dd)) (Tr.chk (decide ((c65_6 ys p).length <= 24)) (Tr.chk (isRows (rows (c65_8 ys p zs).rows)) (Tr.chk (isL (encL (c65_8 ys p zs).kids)) (Tr.chk (decide ((c65_8 ys p zs).lab.length <= 24)) (Tr.chk (decide (okL (decL (encL (c65_8 ys p zs).kids)) 24 (-1) = true)) (Tr.chk true (Tr.chk (decide ((↑(c65_1 ys p) : Int) < (↑ys.length : Int))) (Tr.chk true (Tr.chk true (Tr.chk true (Tr.chk (decide (0 + (↑(c65_1 ys p) : Int).toNat < ys.length)) (Tr.chk true (Tr.chk (decide ((ys.getD (0 + (↑(c65_1 ys p) : Int).toNat) []).length = 3)) (Tr.br (!joinB (c65_9 ys p zs)) (Tr.chk (decide (ys.length = (c65_12 ys p zs).length)) (Tr.chk true (Tr.chk (decide ((↑(c65_1 ys p) : Int) < (↑ys.length : Int))) (Tr.chk (decide (IntKind.i64.wrap ((↑(c65_1 ys p) : Int) + 1) = (↑(c65_1 ys p) : Int) + 1)) (Tr.chk (decide (ys.length < 4294967296)) (Tr.leaf (R.out [V.agg [V.c (C.str s), V.c (C.sl 5 none false xs), V.c (C.sl 3 none false (List.take (ys.length - 1) (List.take (↑(c65_1 ys p) : Int).toNat (c65_12 ys p zs) ++ List.drop ((↑(c65_1 ys p) : Int).toNat + 1) (c65_12 ys p zs))))]] []))))))) (Tr.leaf (R.out [V.agg [V.c (C.str s), V.c (C.sl 5 none false xs), V.c (C.sl 3 none false (List.take ys.length (c65_12 ys p zs)))]] []))))))))))))))))))))))))))))))))) (Tr.chk true (Tr.chk (decide ((↑(c65_3 ys p) : Int).toNat <= p.length)) (Tr.chk (decide (p.length <= p.length)) (Tr.chk (isRows ((c65_2 ys p).tail.headD C.pnil).xs) (Tr.chk (isL ((c65_2 ys p).tail.tail.headD C.pnil).xs) (Tr.chk (isRows zs) (Tr.chk (okL (decL ((c65_2 ys p).tail.tail.headD C.pnil).xs) 24 (-1)) (Tr.chk (right (toRows ((c65_2 ys p).tail.headD C.pnil).xs)) (Tr.chk (right (toRows zs)) (Tr.chk (decide (((c65_2 ys p).headD C.pnil).st.length <= 24)) (Tr.chk (decide (qn ≠ some true \/ zs = [])) (Tr.chk (decide ((c65_6 ys p).length < dd)) (Tr.chk (decide ((c65_6 ys p).length <= 24)) (Tr.chk (isRows (rows (c65_7 ys p zs).rows)) (Tr.chk (isL (encL (c65_7 ys p zs).kids)) (Tr.chk (decide ((c65_7 ys p zs).lab.length <= 24)) (Tr.chk (decide (okL (decL (encL (c65_7 ys p zs).kids)) 24 (-1) = true)) (Tr.chk true (Tr.chk (decide ((↑(c65_1 ys p) : Int) < (↑ys.length : Int))) (Tr.chk true (Tr.chk true (Tr.chk true (Tr.chk (decide (0 + (↑(c65_1 ys p) : Int).toNat < ys.length)) (Tr.chk true (Tr.chk (decide ((ys.getD (0 + (↑(c65_1 ys p) : Int).toNat) []).length = 3)) (Tr.br (!joinB (c65_10 ys p zs)) (Tr.chk (decide (ys.length = (c65_11 ys p zs).length)) (Tr.chk true (Tr.chk (decide ((↑(c65_1 ys p) : Int) < (↑ys.length : Int))) (Tr.chk (decide (IntKind.i64.wrap ((↑(c65_1 ys p) : Int) + 1) = (↑(c65_1 ys p) : Int) + 1)) (Tr.chk (decide (ys.length < 4294967296)) (Tr.leaf (R.out [V.agg [V.c (C.str s), V.c (C.sl 5 none false xs), V.c (C.sl 3 none false (List.take (ys.length - 1) (List.take (↑(c65_1 ys p) : Int).toNat (c65_11 ys p zs) ++ List.drop ((↑(c65_1 ys p) : Int).toNat + 1) (c65_11 ys p zs))))]] []))))))) (Tr.leaf (R.out [V.agg [V.c (C.str s), V.c (C.sl 5 none false xs), V.c (C.sl 3 none false (List.take ys.length (c65_11 ys p zs)))]] []))))))))))))))))))))))))))))))))))))))))))))))))) := by kernel_rfl
end Go.Proofs.YtgaabjmbnomimaaDoor
namespace Go.Proofs.YtgaabjmbnomimaaDoor
open Go Go.Ev
mutual
theorem okT_mono : ∀ (t : Nd) (n m : Nat), n <= m -> okT t n = true -> okT t m = true
 | .node lab rs ks, n, m, h, ht => by
   obtain ⟨g1, g2, g3, g4, g5⟩ := okT_iff.1 ht
   simp only [Nd.lab_node, Nd.rows_node, Nd.kids_node] at g1 g2 g3 g4 g5
   refine okT_iff.2 ⟨g1, ?_, g3, g4, kidsOk_mono ks _ _ ?_ g5⟩
   · simp only [Nd.lab_node]; omega
   · simp only [Nd.lab_node]; omega
theorem kidsOk_mono : ∀ (l : List Nd) (n m : Nat), n <= m -> kidsOk l n -> kidsOk l m
 | [], _, _, _, _ => ⟨by simp, by simp⟩
 | t :: r, n, m, h, hk => by
   have h1 := okT_mono t n m h (hk.1 t (by simp))
   have h2 := kidsOk_mono r n m h (kidsOk_sub hk (List.sublist_cons_self _ _))
   exact ⟨fun u hu => by rcases List.mem_cons.1 hu with rfl | hu; exact h1; exact h2.1 u hu, hk.2⟩
end
theorem f66b (l : List Nd) (b : Int) (hl : labsOk l = true) (h0 : 0 <= b) (h1 : b <= 255) (hlen : l.length < 4294967296) : call E 66 [.buf 0 0 0 l.length, .c (.int .u8 b)] [.mem 3 0 (encL l)] = some ([V.i (posK l b), V.b (hitK l b)], [.mem 3 0 (encL l)]) := by
 refine call_of (E := E) (sh := sh) (ct := ctOf [(123, s123b)]) (na := 2) (m := 1) (ctOf_cons s123b_ok ctOf_nil) rfl rfl rfl rfl rfl rfl ?_
 rw [t66b]
 simp only [encL_length, isL_enc, decL_enc, fd_chk', fd_leaf, decide_true, if_true, hl, h0, h1, hlen]
theorem s66b_ok : CSpecOk E 66 s66b := by
 intro a h cs vals h' he hc
 unfold s66b at he
 split at he <;> simp only [Option.some.injEq, Prod.mk.injEq, reduceCtorEq] at he
 rename_i len b xs
 obtain ⟨rfl, rfl, rfl⟩ := he
 simp only [allT, Bool.and_true, Bool.and_eq_true, decide_eq_true_eq] at hc
 obtain ⟨h1, rfl, h2, h3, h4, h5⟩ := hc
 obtain ⟨l, rfl⟩ := isL_ex h1
 simp only [decL_enc, encL_length] at *
 exact f66b l b h2 h3 h4 h5
theorem f121 (s : Bys) (rs : List Row) (ks : List Nd) (hs : s.length <= 24) (hk : okL ks 24 (-1) = true) :
   call E 121 [.agg [.c (.str s), .c (.sl 5 none false (rows rs)), .c (.sl 3 none false (encL ks))]] [] = some ([VT (joinD (.node s rs ks)), V.b (joinB (.node s rs ks))], []) := by
 refine call_of (E := E) (sh := sh) (ct := ctOf [(117, s117)]) (na := 1) (m := 0) (ctOf_cons s117_ok ctOf_nil) rfl rfl rfl rfl rfl rfl ?_
 rw [t121]
 by_cases c1 : rs = []
 · subst c1
   match ks, hk with
   | [], _ => simp [fd_br, fd_leaf, Bool.false_eq_true, ne_eq, not_true_eq_false, not_false_eq_true, reduceCtorEq, List.take_length, joinD, joinB, joinN, Nd.rows_node, Nd.kids_node, encL, rows]; rfl
   | [k], hk =>
     have hl := okT_lab (okL_mem hk k (by simp)).1
     have hlen := okL_len hl.2.2 (by omega)
     have e0 : (encL [k]).getD (Int.toNat 0) [] = k.enc := rfl
     have h1 : s.length + k.lab.length < 4294967296 := by omega
     have h2 : k.kids.length < 4294967296 := by omega
     have e1 : ¬ (0 : Int) < (rows ([] : List Row)).length := by decide
     have e2 : ¬ (1 : Int) < (encL [k]).length := by simp
     have e3 : (((encL [k]).length : Int) == 0) = false := rfl
     have e4 : Int.toNat 0 < (encL [k]).length := by simp
     simp only [fd_br, fd_chk', fd_leaf, e0, e1, nd_ok, nd_lab, nd_rows, nd_kids, encL_length, h1, h2, decide_true, decide_false, Bool.false_eq_true, if_true, if_false]
     rw [<- encL_length k.kids, List.take_length]
     rfl
   | k :: k2 :: r, hk =>
     have e2 : (1 : Int) < (encL (k :: k2 :: r)).length := by simp only [encL_length, List.length_cons]; omega
     have e1 : ¬ (0 : Int) < (rows ([] : List Row)).length := by decide
     simp only [fd_br, fd_leaf, e1, e2, decide_true, decide_false, Bool.false_eq_true, if_true, if_false]
     simp [joinD, joinB, joinN, Nd.rows_node, Nd.kids_node, Nd.lab_node]
 · have e1 : (0 : Int) < (rows rs).length := by have := List.length_pos_iff.2 c1; simp only [rows_length]; omega
   simp only [fd_br, fd_leaf, e1, decide_true, if_true]
   simp [joinD, joinB, joinN, Nd.rows_node, Nd.kids_node, Nd.lab_node, c1]
theorem s121_ok : CSpecOk E 121 s121 := by
 intro a h cs vals h' he hc
 unfold s121 at he
 split at he <;> simp only [Option.some.injEq, Prod.mk.injEq, reduceCtorEq] at he
 rename_i s xs ys
 obtain ⟨rfl, rfl, rfl⟩ := he
 simp only [allT, Bool.and_true, Bool.and_eq_true, decide_eq_true_eq] at hc
 obtain ⟨h1, h2, h3, h4⟩ := hc
 obtain ⟨rs, rfl⟩ := rows_ex h1
 obtain ⟨ks, rfl⟩ := isL_ex h2
 simp only [toRows_rows, decL_enc] at *
 exact f121 s rs ks h3 h4
theorem s118_ok : CSpecOk E 118 s118 := fun a h cs vals h' he hc => by
 unfold s118 at he
 split at he <;> simp only [Option.some.injEq, Prod.mk.injEq, reduceCtorEq] at he
 rename_i len i xs x
 obtain ⟨rfl, rfl, rfl⟩ := he
 simp only [allT, Bool.and_true, Bool.and_eq_true, decide_eq_true_eq] at hc
 obtain ⟨h1, h2, h3, h4⟩ := hc
 exact call_ext (f := x118) rfl (by simp only [x118, x118s]; rw [if_pos ⟨trivial, trivial, h1, h2, h3, h4⟩])
theorem s122_ok : CSpecOk E 122 s122 := fun a h cs vals h' he hc => by
 unfold s122 at he
 split at he <;> simp only [Option.some.injEq, Prod.mk.injEq, reduceCtorEq] at he
 rename_i len i j xs
 obtain ⟨rfl, rfl, rfl⟩ := he
 simp only [allT, Bool.and_true, Bool.and_eq_true, decide_eq_true_eq] at hc
 obtain ⟨h1, h2, h3, h4, h5⟩ := hc
 exact call_ext (f := x122) rfl (by simp only [x122]; rw [if_pos ⟨trivial, h1, h2, h3, h4, h5⟩])
theorem encL_set {l : List Nd} {i : Nat} (k : Nd) : (encL l).set i k.enc = encL (l.set i k) := by simp [encL_map, List.map_set]
theorem encL_take (l : List Nd) (n : Nat) : (encL l).take n = encL (l.take n) := by simp [encL_map, List.map_take]
theorem encL_drop (l : List Nd) (n : Nat) : (encL l).drop n = encL (l.drop n) := by simp [encL_map, List.map_drop]
theorem encL_app (a b : List Nd) : encL a ++ encL b = encL (a ++ b) := by simp [encL_map]
theorem encL_all (l : List Nd) : (encL l).take l.length = encL l := by rw [<- encL_length l, List.take_length]
theorem putN_fuel : ∀ (f g : Nat) (t : Nd) (p : Bys) (rs : List Row), p.length < f -> p.length < g -> kidsOk t.kids 24 -> right t.rows = true -> p.length <= 24 -> putN f t p rs = putN g t p rs
 | 0, g, t, p, rs, h, _, _, _, _ => by omega
 | f + 1, 0, t, p, rs, _, h, _, _, _ => by omega
 | f + 1, g + 1, t, [], rs, _, _, _, _, _ => rfl
 | f + 1, g + 1, t, b :: q, rs, hf, hg, hk, hr, hp => by
   simp only [putN]
   split
   · rename_i c1
     split
     · rfl
     · unfold hitK at c1
       simp only [Bool.and_eq_true, decide_eq_true_eq] at c1
       obtain ⟨c1, c2⟩ := c1
       rw [getD_at' c1] at c2
       have hko := hk.1 _ (List.getElem_mem c1)
       have hsp : 0 < sharedL t.kids[posK t.kids (b.toNat : Int)].lab (b :: q) := shared_pos (okT_iff.1 hko).1 (by simp) (by rw [c2, hdB_cons])
       obtain ⟨d1, d2, d3, d4, d5, d6, d7⟩ := downN_ok hko hsp
       rw [getD_at' c1]
       rw [putN_fuel f g _ _ rs (by rw [List.length_drop]; simp only [List.length_cons] at hf hg ⊢; omega) (by rw [List.length_drop]; simp only [List.length_cons] at hf hg ⊢; omega) (kidsOk_mono _ _ _ (by omega) d6) d5 (by rw [List.length_drop]; omega)]
   · rfl
theorem wk_new (p : Bys) (qs : List Row) : List.map wkC (List.take 3 [C.str p, C.sl 5 none false (rows qs), C.sl 3 (some true) true []]) = (Nd.node p qs []).enc := by
 rw [Nd.enc]; rfl
theorem enc_mk (t : Nd) : [C.str t.lab, C.sl 5 none false (rows t.rows), C.sl 3 none false (encL t.kids)] = t.enc := (Nd.enc_eq t).symm
theorem kidsOk_labs {l : List Nd} {n : Nat} (h : kidsOk l n) : labsOk l = true := okL_labs (okL_iff'.2 h)
set_option maxHeartbeats 1000000 in
theorem f65 (dd : Nat) (ih : CSpecOk E 65 (s65 dd)) (s : Bys) (rn : OBo) (rt : Bool) (rs : List Row) (kn : OBo) (kt : Bool) (ks : List Nd) (p : Bys) (qn : OBo) (qt : Bool) (qs : List Row)
   (hk : okL ks 24 (-1) = true) (hr : right rs = true) (hq : right qs = true) (hs : s.length <= 24) (hn : qn ≠ some true \/ rows qs = []) (hd : p.length < dd + 1) (hp : p.length <= 24) :
   call E 65 [.agg [.c (.str s), .c (.sl 5 rn rt (rows rs)), .c (.sl 3 kn kt (encL ks))], .c (.str p), .c (.sl 5 qn qt (rows qs))] [] = some ([VT (putN (p.length + 1) (.node s rs ks) p qs)], []) := by
 have hct : (ctOf [(117, s117), (68, s68), (66, s66b), (118, s118), (119, s119), (120, s120), (121, s121), (122, s122), (65, s65 dd)]).ok E :=
   ctOf_cons s117_ok (ctOf_cons s68_ok (ctOf_cons s66b_ok (ctOf_cons s118_ok (ctOf_cons s119_ok (ctOf_cons s120_ok (ctOf_cons s121_ok (ctOf_cons s122_ok (ctOf_cons ih ctOf_nil))))))))
 refine call_of (E := E) (sh := sh) (ct := ctOf [(117, s117), (68, s68), (66, s66b), (118, s118), (119, s119), (120, s120), (121, s121), (122, s122), (65, s65 dd)]) (na := 3) (m := 0) hct rfl rfl rfl rfl rfl rfl ?_
 show (p65 dd).fd ((p65 dd).ft _ _) = _
 have hkK := okL_iff'.1 hk
 have hlen := okL_len hk (by omega)
 have hl1 : ks.length < 4294967294 := by omega
 have hl2 : ks.length < 4294967296 := by omega
 have hql := right_len4 hq
 have hq1 : qs.length < 4294967296 := by omega
 rw [t65]
 cases p with
 | nil =>
   have hnil : (([] : Bys) == []) = true := rfl
   simp only [fd_br, fd_chk', fd_leaf, hnil, encL_length, rows_length, hl2, hq1, hn, encL_all, decide_true, if_true]
   rfl
 | cons b q =>
   have hne : (b :: q == []) = false := rfl
   have hB : ((((b :: q).getD (Int.toNat 0) 0).toNat : Nat) : Int) = (b.toNat : Int) := rfl
   have hB2 : (b.toNat : Int) <= 255 := by have := b.toNat_lt; omega
   have h0p : Int.toNat 0 < (b :: q).length := by simp
   have hlabs := kidsOk_labs hkK
   have e1 : c65_1 (encL ks) (b :: q) = posK ks (b.toNat : Int) := by unfold c65_1; rw [decL_enc, hB]
   have hple := posK_le ks (b.toNat : Int)
   have hput : putN ((b :: q).length + 1) (.node s rs ks) (b :: q) qs = if hitK ks (b.toNat : Int) = true then
       if sharedL (ks.getD (posK ks (b.toNat : Int)) default).lab (b :: q) < (ks.getD (posK ks (b.toNat : Int)) default).lab.length /\ qs = [] then .node s rs ks
       else setN (.node s rs ks) (posK ks (b.toNat : Int)) (joinN (putN (q.length + 1) (downN (ks.getD (posK ks (b.toNat : Int)) default) (b :: q)) ((b :: q).drop (sharedL (ks.getD (posK ks (b.toNat : Int)) default).lab (b :: q))) qs))
     else if qs = [] then .node s rs ks else .node s rs (ks.take (posK ks (b.toNat : Int)) ++ .node (b :: q) qs [] :: ks.drop (posK ks (b.toNat : Int))) := rfl
   rw [hput]
   by_cases c1 : hitK ks (b.toNat : Int) = true
   case neg =>
     rw [if_neg c1]
     rw [Bool.not_eq_true] at c1
     simp only [fd_br, fd_chk', fd_leaf, hne, h0p, hB, hB2, hl1, hl2, hq1, hlabs, e1, c1, encL_length, isL_enc, decL_enc, rows_length, decide_true, if_true, Bool.false_eq_true, if_false, Bool.not_false]
     by_cases c2 : qs = []
     · subst c2
       simp only [List.length_nil, Int.natCast_zero, Int.lt_irrefl, decide_false, Bool.false_eq_true, if_false, if_true, encL_all]
       rfl
     · have c3 : (0 : Int) < qs.length := by have := List.length_pos_iff.2 c2; omega
       have c4 : ((posK ks (b.toNat : Int) : Nat) : Int) <= ks.length := by omega
       simp only [c2, c3, c4, if_true, if_false, decide_true, hn, Int.toNat_natCast, wk_new, encL_take, encL_drop]
       rw [<- encL, encL_app, show ks.length + 1 = (ks.take (posK ks (b.toNat : Int)) ++ Nd.node (b :: q) qs [] :: ks.drop (posK ks (b.toNat : Int))).length by simp; omega, encL_all]
       simp only [VT, Nd.lab_node, Nd.rows_node, Nd.kids_node]
   case pos =>
     rw [if_pos c1]
     have c1' := c1
     unfold hitK at c1
     simp only [Bool.and_eq_true, decide_eq_true_eq] at c1
     obtain ⟨c1, c2⟩ := c1
     have hi : 0 + (((posK ks (b.toNat : Int) : Nat) : Int)).toNat = posK ks (b.toNat : Int) := by omega
     have hcut : (b :: q).take (b :: q).length = b :: q := List.take_length
     rw [getD_at' c1] at c2 ⊢
     have hko := hkK.1 _ (List.getElem_mem c1)
     obtain ⟨g1, g2, g3, g4, g5⟩ := okT_iff.1 hko
     have hsp : 0 < sharedL ks[posK ks (b.toNat : Int)].lab (b :: q) := shared_pos g1 (by simp) (by rw [c2, hdB_cons])
     obtain ⟨s1, s2, s3⟩ := shared_split ks[posK ks (b.toNat : Int)].lab (b :: q)
     have e8 : c65_2 (encL ks) (b :: q) = ks[posK ks (b.toNat : Int)].enc := by unfold c65_2; rw [e1, hi, encL_getD c1, enc_take]
     have e12 : c65_3 (encL ks) (b :: q) = sharedL ks[posK ks (b.toNat : Int)].lab (b :: q) := by unfold c65_3; rw [e8, nd_lab]
     have e6 : c65_4 (encL ks) (b :: q) = splitN ks[posK ks (b.toNat : Int)] (sharedL ks[posK ks (b.toNat : Int)].lab (b :: q)) := by
       unfold c65_4; rw [e8, e12, nd_lab, nd_rows, nd_kids, toRows_rows, decL_enc, Nd.eta, Int.toNat_natCast]
     have e2 : c65_5 (encL ks) (b :: q) = splitN ks[posK ks (b.toNat : Int)] (sharedL ks[posK ks (b.toNat : Int)].lab (b :: q)) := by
       unfold c65_5; rw [e6, toRows_rows, decL_enc, Nd.eta]
     have e3 : c65_6 (encL ks) (b :: q) = (b :: q).drop (sharedL ks[posK ks (b.toNat : Int)].lab (b :: q)) := by unfold c65_6; rw [e12, hcut, Int.toNat_natCast]
     have hdl : ((b :: q).drop (sharedL ks[posK ks (b.toNat : Int)].lab (b :: q))).length < dd := by rw [List.length_drop]; omega
     have hdl2 : ((b :: q).drop (sharedL ks[posK ks (b.toNat : Int)].lab (b :: q))).length <= 24 := by rw [List.length_drop]; omega
     have hdl3 : ((b :: q).drop (sharedL ks[posK ks (b.toNat : Int)].lab (b :: q))).length < q.length + 1 := by rw [List.length_drop, List.length_cons]; omega
     obtain ⟨d1, d2, d3, d4, d5, d6, d7⟩ := downN_ok hko hsp
     have d8 := kidsOk_mono _ _ 24 (by omega) d6
     obtain ⟨r1, r2, r3, _, r5⟩ := putN_ok (((b :: q).drop (sharedL ks[posK ks (b.toNat : Int)].lab (b :: q))).length + 1) _ _ qs 24 (Nat.lt_succ_self _) d8 hdl2 hq d5
     have e10 : sharedL ks[posK ks (b.toNat : Int)].lab (b :: q) < ks[posK ks (b.toNat : Int)].lab.length -> c65_8 (encL ks) (b :: q) (rows qs) = putN (((b :: q).drop (sharedL ks[posK ks (b.toNat : Int)].lab (b :: q))).length + 1) (downN ks[posK ks (b.toNat : Int)] (b :: q)) ((b :: q).drop (sharedL ks[posK ks (b.toNat : Int)].lab (b :: q))) qs := fun h => by
       unfold c65_8; rw [e3, e2, toRows_rows]; unfold downN; rw [if_pos h]
     have e4 : ¬ sharedL ks[posK ks (b.toNat : Int)].lab (b :: q) < ks[posK ks (b.toNat : Int)].lab.length -> c65_7 (encL ks) (b :: q) (rows qs) = putN (((b :: q).drop (sharedL ks[posK ks (b.toNat : Int)].lab (b :: q))).length + 1) (downN ks[posK ks (b.toNat : Int)] (b :: q)) ((b :: q).drop (sharedL ks[posK ks (b.toNat : Int)].lab (b :: q))) qs := fun h => by
       unfold c65_7; rw [e3, e8, nd_lab, nd_rows, nd_kids, toRows_rows, decL_enc, Nd.eta, toRows_rows]; unfold downN; rw [if_neg h]
     rw [putN_fuel (q.length + 1) (((b :: q).drop (sharedL ks[posK ks (b.toNat : Int)].lab (b :: q))).length + 1) _ _ qs hdl3 (Nat.lt_succ_self _) d8 d5 hdl2]
     have hlab9 : ks[posK ks (b.toNat : Int)].lab.length < 9223372036854775807 := by omega
     have hlabu : (putN (((b :: q).drop (sharedL ks[posK ks (b.toNat : Int)].lab (b :: q))).length + 1) (downN ks[posK ks (b.toNat : Int)] (b :: q)) ((b :: q).drop (sharedL ks[posK ks (b.toNat : Int)].lab (b :: q))) qs).lab.length <= 24 := by rw [r1, d4]; omega
     have e5 : sharedL ks[posK ks (b.toNat : Int)].lab (b :: q) < ks[posK ks (b.toNat : Int)].lab.length -> c65_9 (encL ks) (b :: q) (rows qs) = putN (((b :: q).drop (sharedL ks[posK ks (b.toNat : Int)].lab (b :: q))).length + 1) (downN ks[posK ks (b.toNat : Int)] (b :: q)) ((b :: q).drop (sharedL ks[posK ks (b.toNat : Int)].lab (b :: q))) qs := fun h => by
       unfold c65_9; rw [e10 h, toRows_rows, decL_enc, Nd.eta]
     have e11 : ¬ sharedL ks[posK ks (b.toNat : Int)].lab (b :: q) < ks[posK ks (b.toNat : Int)].lab.length -> c65_10 (encL ks) (b :: q) (rows qs) = putN (((b :: q).drop (sharedL ks[posK ks (b.toNat : Int)].lab (b :: q))).length + 1) (downN ks[posK ks (b.toNat : Int)] (b :: q)) ((b :: q).drop (sharedL ks[posK ks (b.toNat : Int)].lab (b :: q))) qs := fun h => by
       unfold c65_10; rw [e4 h, toRows_rows, decL_enc, Nd.eta]
     generalize putN (((b :: q).drop (sharedL ks[posK ks (b.toNat : Int)].lab (b :: q))).length + 1) (downN ks[posK ks (b.toNat : Int)] (b :: q)) ((b :: q).drop (sharedL ks[posK ks (b.toNat : Int)].lab (b :: q))) qs = u at *
     have hku := okL_iff'.2 r3
     have c9 : ((posK ks (b.toNat : Int) : Nat) : Int) < ks.length := by omega
     have w9 : IntKind.wrap .i64 (((posK ks (b.toNat : Int) : Nat) : Int) + 1) = ((posK ks (b.toNat : Int) : Nat) : Int) + 1 := by rw [wrap_same (by omega) (by omega)]
     have hs3 : (ks[posK ks (b.toNat : Int)].lab.length : Int) = ks[posK ks (b.toNat : Int)].lab.length := rfl
     -- how it ends
     have fin : ∀ X : List (List C), X = (encL ks).set (posK ks (b.toNat : Int)) (joinD u).enc -> (if joinB u = true then some (R.out [V.agg [V.c (.str s), V.c (.sl 5 none false (rows rs)), V.c (.sl 3 none false (List.take ks.length X))]] [])
         else some (R.out [V.agg [V.c (.str s), V.c (.sl 5 none false (rows rs)), V.c (.sl 3 none false (List.take (ks.length - 1) (List.take (posK ks (b.toNat : Int)) X ++ List.drop (posK ks (b.toNat : Int) + 1) X)))]] [])) = some (R.out [VT (setN (Nd.node s rs ks) (posK ks (b.toNat : Int)) (joinN u))] []) := by
       rintro X rfl
       rw [encL_set]
       unfold joinB joinD
       cases joinN u with
       | none =>
         simp only [Option.isSome_none, Bool.false_eq_true, if_false, Option.getD_none, setN, VT, Nd.lab_node, Nd.rows_node, Nd.kids_node, encL_take, encL_drop, encL_app]
         rw [List.take_set_of_le (Nat.le_refl _), List.drop_set_of_lt (Nat.lt_succ_self _), List.take_of_length_le (by simp; omega)]
       | some k =>
         simp only [Option.isSome_some, if_true, Option.getD_some, setN, VT, Nd.lab_node, Nd.rows_node, Nd.kids_node]
         rw [encL_take, List.take_of_length_le (by simp)]
     have w3 : ∀ t : Nd, ([C.str t.lab, C.sl 5 none false (rows t.rows), C.sl 3 none false (encL t.kids)]).length = 3 := fun _ => rfl
     simp only [fd_br, fd_chk', fd_leaf, hne, h0p, hB, hB2, hl1, hl2, hq1, hlabs, e1, c1', c1, encL_length, isL_enc, decL_enc, rows_length, decide_true, if_true, Bool.false_eq_true, if_false, Bool.not_true, hi, c9, encL_getD c1, enc_len, Nat.le_refl,
       e8, nd_ok, nd_lab, nd_rows, nd_kids, hlab9, e12, Int.ofNat_lt, Int.ofNat_le, isRows_rows]
     have hN : ((sharedL ks[posK ks (b.toNat : Int)].lab (b :: q) : Nat) : Int).toNat <= (b :: q).length := by omega
     have hN2 : ((sharedL ks[posK ks (b.toNat : Int)].lab (b :: q) : Nat) : Int) <= ks[posK ks (b.toNat : Int)].lab.length := by omega
     have hI : (((posK ks (b.toNat : Int) : Nat) : Int)).toNat = posK ks (b.toNat : Int) := by omega
     have hkk := okL_iff'.2 (kidsOk_mono _ _ 24 (by omega) g5)
     have hrk : right (toRows (rows ks[posK ks (b.toNat : Int)].rows)) = true := by rw [toRows_rows]; exact g3
     have hrq : right (toRows (rows qs)) = true := by rw [toRows_rows]; exact hq
     have en : ∀ X : List (List C), (if joinB u = true then some (R.out [V.agg [V.c (.str s), V.c (.sl 5 none false (rows rs)), V.c (.sl 3 none false (List.take ks.length X))]] [])
         else some (R.out [V.agg [V.c (.str s), V.c (.sl 5 none false (rows rs)), V.c (.sl 3 none false (List.take (ks.length - 1) (List.take (posK ks (b.toNat : Int)) X ++ List.drop (posK ks (b.toNat : Int) + 1) X)))]] [])) =
         if (!joinB u) = true then some (R.out [V.agg [V.c (.str s), V.c (.sl 5 none false (rows rs)), V.c (.sl 3 none false (List.take (ks.length - 1) (List.take (posK ks (b.toNat : Int)) X ++ List.drop (posK ks (b.toNat : Int) + 1) X)))]] [])
         else some (R.out [V.agg [V.c (.str s), V.c (.sl 5 none false (rows rs)), V.c (.sl 3 none false (List.take ks.length X))]] []) := fun X => by cases joinB u <;> rfl
     by_cases c3 : sharedL ks[posK ks (b.toNat : Int)].lab (b :: q) < ks[posK ks (b.toNat : Int)].lab.length
     · have e12 : c65_12 (encL ks) (b :: q) (rows qs) = (encL ks).set (posK ks (b.toNat : Int)) (joinD u).enc := by unfold c65_12; rw [e1, hi, e5 c3, enc_mk]
       have hsl : (splitN ks[posK ks (b.toNat : Int)] (sharedL ks[posK ks (b.toNat : Int)].lab (b :: q))).lab.length <= 24 := by simp only [splitN, Nd.lab_node, List.length_take]; omega
       have hdn : downN ks[posK ks (b.toNat : Int)] (b :: q) = splitN ks[posK ks (b.toNat : Int)] (sharedL ks[posK ks (b.toNat : Int)].lab (b :: q)) := by unfold downN; rw [if_pos c3]
       rw [hdn] at d5 d8
       have hsk := okL_iff'.2 d8
       by_cases c4 : qs = []
       · have c5 : ((qs.length : Int) == 0) = true := by simp [c4]
         simp only [c3, c4, and_self, if_true, decide_true, encL_all, List.length_nil]
         rfl
       · have c5 : ((qs.length : Int) == 0) = false := by
           have := List.length_pos_iff.2 c4
           simp; omega
         simp only [c3, c4, c5, and_false, if_true, if_false, decide_true, Bool.false_eq_true, hN, s2, hkk, e6, hsk, hsl, hn, e3, hdl, hdl2, e10 c3, e5 c3, hlabu, hku, e12, w9, hI, toRows_rows, hq, List.length_set, encL_length]
         rw [<- en]
         exact fin _ rfl
     · have e12 : c65_11 (encL ks) (b :: q) (rows qs) = (encL ks).set (posK ks (b.toNat : Int)) (joinD u).enc := by unfold c65_11; rw [e1, hi, e11 c3, enc_mk]
       simp only [c3, false_and, if_true, if_false, decide_true, decide_false, Bool.false_eq_true, hN, hkk, g2, hn, e3, hdl, hdl2, e4 c3, e11 c3, hlabu, hku, e12, w9, hI, toRows_rows, g3, hq, List.length_set, encL_length]
       rw [<- en]
       exact fin _ rfl
theorem s65_ok : ∀ d, CSpecOk E 65 (s65 d)
 | 0 => by
   intro a h cs vals h' he hc
   unfold s65 at he
   split at he <;> simp only [Option.some.injEq, Prod.mk.injEq, reduceCtorEq] at he
   obtain ⟨rfl, rfl, rfl⟩ := he
   simp [allT] at hc
 | d + 1 => by
   intro a h cs vals h' he hc
   unfold s65 at he
   split at he <;> simp only [Option.some.injEq, Prod.mk.injEq, reduceCtorEq] at he
   rename_i s rn rt xs kn kt ys p qn qt zs
   obtain ⟨rfl, rfl, rfl⟩ := he
   simp only [allT, Bool.and_true, Bool.and_eq_true, decide_eq_true_eq] at hc
   obtain ⟨h1, h2, h3, h4, h5, h6, h7, h8, h9, h10⟩ := hc
   obtain ⟨rs, rfl⟩ := rows_ex h1
   obtain ⟨ks, rfl⟩ := isL_ex h2
   obtain ⟨qs, rfl⟩ := rows_ex h3
   simp only [toRows_rows, decL_enc] at *
   exact f65 d (s65_ok d) s rn rt rs kn kt ks p qn qt qs h4 h5 h6 h7 h8 h9 h10
end Go.Proofs.YtgaabjmbnomimaaDoor
namespace Go.Proofs.YtgaabjmbnomimaaDoor
open Go Go.Ev
-- cse
noncomputable abbrev p63 : Par := par E sh (ctOf []) 63 1 0
theorem t63 (p : Bys) : p63.ft ([V.c (C.str p)]) ([]) = (Tr.br (!p == []) (Tr.leaf (R.out [V.c (C.bool (decide ((↑p.length : Int) <= 24)))] [])) (Tr.leaf (R.out [V.c (C.bool false)] []))) := by kernel_rfl
def isPath (p : Bys) : Bool := decide (p ≠ []) && decide (p.length <= 24)
def s63 : CSpec := fun a h => match a, h with
 | [.c (.str p)], [] => some ([], [V.b (isPath p)], [])
 | _, _ => none
noncomputable abbrev p82 : Par := par E sh (ctOf []) 82 1 0
theorem t82 (p : Bys) : p82.ft ([V.c (C.str p)]) ([]) = (Tr.leaf (R.out [V.c (C.bool true)] [])) := by kernel_rfl
def s82 : CSpec := fun a h => match a, h with
 | [.c (.str p)], [] => some ([], [V.b true], [])
 | _, _ => none
noncomputable abbrev p134 : Par := par E sh (ctOf []) 134 3 0
theorem t134 (s : Bys) (rn : OBo) (rt : Bool) (xs : LLC) (kn : OBo) (kt : Bool) (ys : LLC) (q : Bys) : p134.ft ([V.agg [V.c (C.str s), V.c (C.sl 5 rn rt xs), V.c (C.sl 3 kn kt ys)], V.c (C.str q), V.fn 82 []]) ([]) = (Tr.leaf (R.out [V.fn 166 [V.ptr 1 0 0 0, V.ptr 0 0 0 0, V.ptr 2 0 0 0]] [O.box [V.c (C.str s), V.c (C.sl 5 rn rt xs), V.c (C.sl 3 kn kt ys)], O.box [V.c (C.str q)], O.box [V.fn 82 []]])) := by kernel_rfl
variable (dd : Nat)
noncomputable abbrev p25 : Par := par E sh (ctOf [(28, s28), (63, s63), (64, s64), (65, s65 dd)]) 25 3 0
theorem t25 (s : Bys) (rn : OBo) (rt : Bool) (xs : LLC) (kn : OBo) (kt : Bool) (ys : LLC) (p : Bys) (qn : OBo) (qt : Bool) (zs : LLC) : (p25 dd).ft ([V.agg [V.c (C.str s), V.c (C.sl 5 rn rt xs), V.c (C.sl 3 kn kt ys)], V.c (C.str p), V.c (C.sl 5 qn qt zs)]) ([]) = (Tr.chk (isRows xs) (Tr.chk (isL ys) (Tr.br (checkT (Nd.node s (toRows xs) (decL ys)) != 0) (Tr.leaf (R.out [V.agg [V.c (C.str []), V.c (C.sl 5 none false []), V.c (C.sl 3 none false [])], V.c (C.int IntKind.i64 2)] [])) (Tr.br (!isPath p) (Tr.leaf (R.out [V.agg [V.c (C.str []), V.c (C.sl 5 none false []), V.c (C.sl 3 none false [])], V.c (C.int IntKind.i64 2)] [])) (Tr.chk (isRows zs) (Tr.br (checkR (toRows zs) != 0) (Tr.leaf (R.out [V.agg [V.c (C.str []), V.c (C.sl 5 none false []), V.c (C.sl 3 none false [])], V.c (C.int IntKind.i64 2)] [])) (Tr.chk (isRows xs) (Tr.chk (isL ys) (Tr.chk (isRows zs) (Tr.chk (okL (decL ys) 24 (-1)) (Tr.chk (right (toRows xs)) (Tr.chk (right (toRows zs)) (Tr.chk (decide (s.length <= 24)) (Tr.chk (decide (qn ≠ some true \/ zs = [])) (Tr.chk (decide (p.length < dd)) (Tr.chk (decide (p.length <= 24)) (Tr.leaf (R.out [V.agg [V.c (C.str (putN (p.length + 1) (Nd.node s (toRows xs) (decL ys)) p (toRows zs)).lab), V.c (C.sl 5 none false (rows (putN (p.length + 1) (Nd.node s (toRows xs) (decL ys)) p (toRows zs)).rows)), V.c (C.sl 3 none false (encL (putN (p.length + 1) (Nd.node s (toRows xs) (decL ys)) p (toRows zs)).kids))], V.c (C.int IntKind.i64 0)] [])))))))))))))))))) := by kernel_rfl
end Go.Proofs.YtgaabjmbnomimaaDoor
namespace Go.Proofs.YtgaabjmbnomimaaDoor
open Go Go.Ev
theorem f63 (p : Bys) : call E 63 [.c (.str p)] [] = some ([V.b (isPath p)], []) := by
 refine call_of (E := E) (sh := sh) (ct := ctOf []) (na := 1) (m := 0) ctOf_nil rfl rfl rfl rfl rfl rfl ?_
 rw [t63]; unfold isPath
 cases p with
 | nil => rfl
 | cons b q =>
   have h : (b :: q == []) = false := rfl
   simp only [fd_br, fd_leaf, h, Bool.not_false, if_true, ne_eq, reduceCtorEq, not_false_eq_true, decide_true, Bool.true_and]
   have : (decide (((b :: q).length : Int) <= 24)) = decide ((b :: q).length <= 24) := by
     rw [Bool.eq_iff_iff]; simp only [decide_eq_true_eq]; omega
   rw [this]
theorem s63_ok : CSpecOk E 63 s63 := by
 intro a h cs vals h' he hc
 unfold s63 at he
 split at he <;> simp only [Option.some.injEq, Prod.mk.injEq, reduceCtorEq] at he
 obtain ⟨rfl, rfl, rfl⟩ := he
 exact f63 _
theorem f82 (p : Bys) : call E 82 [.c (.str p)] [] = some ([V.b true], []) := by
 refine call_of (E := E) (sh := sh) (ct := ctOf []) (na := 1) (m := 0) ctOf_nil rfl rfl rfl rfl rfl rfl ?_
 rw [t82]; rfl
theorem s82_ok : CSpecOk E 82 s82 := by
 intro a h cs vals h' he hc
 unfold s82 at he
 split at he <;> simp only [Option.some.injEq, Prod.mk.injEq, reduceCtorEq] at he
 obtain ⟨rfl, rfl, rfl⟩ := he
 exact f82 _
def putP (t : Nd) (p : Bys) (rs : List Row) : Nd × Int := if okR t = true /\ isPath p = true /\ right rs = true then (putR t p rs, 0) else (.node [] [] [], 2)
def s25 : CSpec := fun a h => match a, h with
 | [.agg [.c (.str s), .c (.sl 5 rn rt xs), .c (.sl 3 kn kt ys)], .c (.str p), .c (.sl 5 qn qt zs)], [] => some ([isRows xs, isL ys, isRows zs, decide (qn ≠ some true \/ zs = [])], [VT (putP (.node s (toRows xs) (decL ys)) p (toRows zs)).1, V.i (putP (.node s (toRows xs) (decL ys)) p (toRows zs)).2], [])
 | _, _ => none
theorem checkT_ne (t : Nd) : (checkT t != 0) = !okR t := by
 unfold checkT; cases okR t <;> rfl
theorem f25 (s : Bys) (rn : OBo) (rt : Bool) (rs : List Row) (kn : OBo) (kt : Bool) (ks : List Nd) (p : Bys) (qn : OBo) (qt : Bool) (qs : List Row) (hn : qn ≠ some true \/ rows qs = []) :
   call E 25 [.agg [.c (.str s), .c (.sl 5 rn rt (rows rs)), .c (.sl 3 kn kt (encL ks))], .c (.str p), .c (.sl 5 qn qt (rows qs))] [] = some ([VT (putP (.node s rs ks) p qs).1, V.i (putP (.node s rs ks) p qs).2], []) := by
 have hct : (ctOf [(28, s28), (63, s63), (64, s64), (65, s65 (p.length + 1))]).ok E := ctOf_cons s28_ok (ctOf_cons s63_ok (ctOf_cons s64_ok (ctOf_cons (s65_ok _) ctOf_nil)))
 refine call_of (E := E) (sh := sh) (ct := ctOf [(28, s28), (63, s63), (64, s64), (65, s65 (p.length + 1))]) (na := 3) (m := 0) hct rfl rfl rfl rfl rfl rfl ?_
 show (p25 (p.length + 1)).fd ((p25 (p.length + 1)).ft _ _) = _
 rw [t25]
 simp only [isL_enc, decL_enc, fd_br, fd_chk', fd_leaf, decide_eq_true_eq, if_true, ne_eq, Bool.not_eq_true', isRows_rows, toRows_rows, checkT_ne, checkR_ne]
 unfold putP
 cases c1 : okR (.node s rs ks) with
 | false => simp [VT, Nd.lab_node, Nd.rows_node, Nd.kids_node, rows, encL]
 | true =>
   have c1' := okR_iff.1 c1
   simp only [Nd.lab_node, Nd.rows_node, Nd.kids_node] at c1'
   obtain ⟨rfl, rfl, hk⟩ := c1'
   cases c2 : isPath p with
   | false => simp [VT, Nd.lab_node, Nd.rows_node, Nd.kids_node, rows, encL]
   | true =>
     cases c3 : right qs with
     | false => simp [VT, Nd.lab_node, Nd.rows_node, Nd.kids_node, rows, encL]
     | true =>
       have hp : p.length <= 24 := by unfold isPath at c2; simp at c2; exact c2.2
       have r0 : right [] = true := rfl
       simp [okL_iff'.2 hk, r0, hp, hn, VT, putR]
theorem s25_ok : CSpecOk E 25 s25 := by
 intro a h cs vals h' he hc
 unfold s25 at he
 split at he <;> simp only [Option.some.injEq, Prod.mk.injEq, reduceCtorEq] at he
 rename_i s rn rt xs kn kt ys p qn qt zs
 obtain ⟨rfl, rfl, rfl⟩ := he
 simp only [allT, Bool.and_true, Bool.and_eq_true, decide_eq_true_eq] at hc
 obtain ⟨h1, h2, h3, h4⟩ := hc
 obtain ⟨rs, rfl⟩ := rows_ex h1
 obtain ⟨ks, rfl⟩ := isL_ex h2
 obtain ⟨qs, rfl⟩ := rows_ex h3
 simp only [toRows_rows, decL_enc]
 exact f25 s rn rt rs kn kt ks p qn qt qs h4
end Go.Proofs.YtgaabjmbnomimaaDoor
namespace Go.Proofs.YtgaabjmbnomimaaDoor
open Go Go.Ev
abbrev Rise (l : List Ent) : Prop := l.Pairwise fun a b => Op.bytesLess a.1 b.1 = true
theorem rise_map (q : Bys) {l : List Ent} (h : Rise l) : Rise (l.map fun e => (q ++ e.1, e.2)) := by
 rw [Rise, List.pairwise_map]
 exact h.imp fun h => by rw [bl_app]; exact h
theorem entL_ne_nil {l : List Nd} {n : Nat} (h : kidsOk l n) : ∀ e ∈ entL l, e.1 ≠ [] := fun _ he => (entL_hd h he).1
theorem rise_own {rs : List Row} {l : List Ent} (h : Rise l) (hn : ∀ e ∈ l, e.1 ≠ []) : Rise (ownB rs ++ l) := by
 unfold ownB
 split
 · exact h
 · rw [List.singleton_append, Rise, List.pairwise_cons]
   refine ⟨fun e he => ?_, h⟩
   obtain ⟨b, q, hb⟩ := head_of_ne (hn e he)
   simp only [hb]; rfl
mutual
theorem entT_rise : ∀ (t : Nd) (n : Nat), okT t n = true -> Rise (entT t)
 | .node s rs ks, n, h => by
   obtain ⟨g1, g2, g3, g4, g5⟩ := okT_iff.1 h
   simp only [Nd.lab_node, Nd.kids_node] at g5
   rw [entT_B]
   exact rise_map _ (rise_own (entL_rise ks _ g5) (entL_ne_nil g5))
theorem entL_rise : ∀ (l : List Nd) (n : Nat), kidsOk l n -> Rise (entL l)
 | [], _, _ => List.Pairwise.nil
 | t :: r, n, h => by
   have hr : kidsOk r n := kidsOk_sub h (List.sublist_cons_self _ _)
   have hT := h.1 t (by simp)
   have hlt : ∀ k ∈ r, hdB t.lab < hdB k.lab := by have := h.2; rw [List.pairwise_cons] at this; exact this.1
   rw [entL, Rise, List.pairwise_append]
   refine ⟨entT_rise t n hT, entL_rise r n hr, fun a ha b hb => ?_⟩
   obtain ⟨s, hs⟩ := entT_pre t a ha
   obtain ⟨hbn, k, hk, hkb⟩ := entL_hd hr hb
   have hne := (okT_iff.1 hT).1
   refine bl_hd (by rw [hs]; simp [hne]) hbn ?_
   rw [hs, hdB_app hne, hkb]; exact hlt k hk
end
theorem entL_right : ∀ (l : List Nd) (n : Nat), kidsOk l n -> ∀ e ∈ entL l, right e.2 = true := by
 have main : ∀ (d : Nat) (l : List Nd) (n : Nat), depL l < d -> kidsOk l n -> ∀ e ∈ entL l, right e.2 = true := by
   intro d
   induction d with
   | zero => intro l n h; omega
   | succ d ih =>
     intro l n hd h e he
     induction l with
     | nil => simp [entL] at he
     | cons t r ih2 =>
       rw [entL] at he
       rcases List.mem_append.1 he with he | he
       · have hT := okT_iff.1 (h.1 t (by simp))
         rw [entT_B] at he
         obtain ⟨x, hx, rfl⟩ := List.mem_map.1 he
         rcases List.mem_append.1 hx with hx | hx
         · unfold ownB at hx
           split at hx
           · simp at hx
           · simp only [List.mem_singleton] at hx; subst hx; exact hT.2.2.1
         · exact ih t.kids _ (by have := depL_kid (l := t :: r) (t := t) (by simp); omega) hT.2.2.2.2 x hx
       · exact ih2 (by rw [depL] at hd; omega) (kidsOk_sub h (List.sublist_cons_self _ _)) he
 exact fun l n h => main (depL l + 1) l n (Nat.lt_succ_self _) h
theorem entR_rise {t : Nd} (h : okR t = true) : Rise (entR t) := entL_rise _ _ (okR_iff.1 h).2.2
theorem isPath_iff {p : List UInt8} : isPath p = true ↔ p ≠ [] /\ p.length <= 24 := by simp [isPath]
end Go.Proofs.YtgaabjmbnomimaaDoor
namespace Go.Proofs.YtgaabjmbnomimaaDoor
open Go Go.Ev Go.Sort
theorem cmpB_neg {x y : List UInt8} : cmpB x y < 0 ↔ Op.bytesLess x y = true := by
 unfold cmpB
 split
 · rename_i h; simp [h]
 · rename_i h
   split <;> simp [h]
theorem swoT : SWO (fun x y : Tg => decide (cmpB x.1 y.1 < 0)) where
 irrefl x := by
   have : ¬ cmpB x.1 x.1 < 0 := by rw [cmpB_neg, bl_irrefl]; simp
   simpa using this
 trans x y z h1 h2 := by
   simp only [decide_eq_true_eq] at *
   rw [cmpB_neg] at *
   exact bl_trans h1 h2
 ntrans x y z h1 h2 := by
   simp only [decide_eq_false_iff_not] at *
   rw [cmpB_neg] at *
   intro h3
   rw [Bool.not_eq_true] at h1 h2
   cases h4 : Op.bytesLess y.1 x.1 with
   | true => rw [bl_trans h4 h3] at h2; cases h2
   | false =>
     have := bl_total _ _ h1 h4
     rw [this, h2] at h3; cases h3
theorem sortT_spec (l : List Tg) (h : l.length < 4611686018427387904) : (sortT l).Perm l /\ (sortT l).Pairwise (fun x y => Op.bytesLess y.1 x.1 = false) := by
 have hs : l.toArray.size = l.length := by simp
 obtain ⟨h1, h2⟩ := pdq_sorts (fun x y : Tg => decide (cmpB x.1 y.1 < 0)) swoT l.toArray 0 l.toArray.size (Lib.bitLen l.toArray.size) true true (Nat.zero_le _) (Nat.le_refl _) (Or.inl rfl)
 rw [hs] at h1 h2
 unfold sortT
 generalize pdq (fun x y : Tg => decide (cmpB x.1 y.1 < 0)) l.toArray 0 l.length (Lib.bitLen l.length) true true = d at h1 h2
 obtain ⟨p1, p2, p3⟩ := h1
 rw [hs] at p1
 constructor
 · rw [show d.extract 0 l.length = d by rw [<- p1]; simp, show l.toArray.extract 0 l.length = l.toArray by simp] at p3
   simpa using p3
 · rw [List.pairwise_iff_getElem]
   intro i j hi hj hij
   have hi' : i < d.size := by simpa using hi
   have hj' : j < d.size := by simpa using hj
   have := h2 i j (Nat.zero_le _) hij (by omega)
   simp only [decide_eq_false_iff_not] at this
   rw [cmpB_neg, Bool.not_eq_true] at this
   rw [getElem!_pos d i hi', getElem!_pos d j hj'] at this
   simpa using this
theorem tagE_len : ∀ (n : Nat) (xs : LLC), (tagE n xs).length = xs.length
 | _, [] => rfl
 | n, x :: r => by simp [tagE, tagE_len]
theorem tagE_get : ∀ (n : Nat) (xs : LLC) (k : Nat) (h : k < xs.length), (tagE n xs)[k]'(by rw [tagE_len]; exact h) = ((xs[k].headD .pnil).st, n + k)
 | n, x :: r, 0, _ => rfl
 | n, x :: r, k + 1, h => by
   have := tagE_get (n + 1) r k (by simpa using h)
   simp only [tagE, List.getElem_cons_succ, this]
   congr 1; omega
theorem tagE_mem {xs : List (List C)} {t : Tg} (h : t ∈ tagE 0 xs) : ∃ h : t.2 < xs.length, t.1 = (xs[t.2].headD .pnil).st := by
 obtain ⟨k, hk, rfl⟩ := List.getElem_of_mem h
 rw [tagE_len] at hk
 rw [tagE_get 0 xs k hk]
 simp only [Nat.zero_add]
 exact ⟨hk, trivial⟩
theorem tagE_map (xs : LLC) : (tagE 0 xs).map (fun t => xs.getD t.2 []) = xs := by
 refine List.ext_getElem (by simp [tagE_len]) fun k h1 h2 => ?_
 rw [List.getElem_map, tagE_get 0 xs k h2]
 simp [List.getD_eq_getElem?_getD, h2]
theorem sortX_perm (xs : LLC) (h : xs.length < 4611686018427387904) : (sortX xs).Perm xs := by
 have := (sortT_spec (tagE 0 xs) (by rw [tagE_len]; exact h)).1.map fun t => xs.getD t.2 []
 rw [tagE_map] at this
 exact this
theorem sortX_len (xs : LLC) (h : xs.length < 4611686018427387904) : (sortX xs).length = xs.length := (sortX_perm xs h).length_eq
end Go.Proofs.YtgaabjmbnomimaaDoor
namespace Go.Proofs
open Go.Shelf
def Tryd.lays197_ren : Go.Shelf.Ren := ⟨fun | 197 => 183 | 260 => 184 | n => n, fun | 9 => 9 | 21 => 21 | 3 => 3 | 4 => 4 | 5 => 5 | 105 => 206 | 119 => 208 | 0 => 0 | 46 => 158 | 139 => 211 | 138 => 210 | n => n, fun | 3 => 1 | 4 => 2 | n => n⟩
theorem Tryd.lays197 : Go.Proofs.Lays.n197 Tryd.prog Tryd.lays197_ren := {
 mixed := by kernel_rfl
 f197 := Tryd.func183.trans (congrArg some (by kernel_rfl))
 f260 := Tryd.func184.trans (congrArg some (by kernel_rfl))
 t0 := Tryd.underlying0
 a0 := Tryd.isAgg0
 z0 := Tryd.sizeOf0
 v0 := Tryd.zeroValue0
 t3 := Tryd.underlying3
 a3 := Tryd.isAgg3
 z3 := Tryd.sizeOf3
 v3 := Tryd.zeroValue3
 t4 := Tryd.underlying4
 a4 := Tryd.isAgg4
 z4 := Tryd.sizeOf4
 v4 := Tryd.zeroValue4
 t5 := Tryd.underlying5
 a5 := Tryd.isAgg5
 z5 := Tryd.sizeOf5
 v5 := Tryd.zeroValue5
 t9 := Tryd.underlying9
 a9 := Tryd.isAgg9
 z9 := Tryd.sizeOf9
 v9 := Tryd.zeroValue9
 t21 := Tryd.underlying21
 a21 := Tryd.isAgg21
 z21 := Tryd.sizeOf21
 v21 := Tryd.zeroValue21
 t46 := Tryd.underlying158
 a46 := Tryd.isAgg158
 z46 := Tryd.sizeOf158
 v46 := Tryd.zeroValue158
 t105 := Tryd.underlying206
 a105 := Tryd.isAgg206
 z105 := Tryd.sizeOf206
 v105 := Tryd.zeroValue206
 t119 := Tryd.underlying208
 a119 := Tryd.isAgg208
 z119 := Tryd.sizeOf208
 t138 := Tryd.underlying210
 a138 := Tryd.isAgg210
 z138 := Tryd.sizeOf210
 v138 := Tryd.zeroValue210
 t139 := Tryd.underlying211
 a139 := Tryd.isAgg211
 z139 := Tryd.sizeOf211
 v139 := Tryd.zeroValue211
 g3 := by kernel_rfl
 g4 := by kernel_rfl }
def Tryd.lays106_ren : Go.Shelf.Ren := ⟨fun | 106 => 75 | 213 => 129 | 265 => 162 | n => n, fun | 9 => 9 | 3 => 3 | n => n, fun | n => n⟩
theorem Tryd.lays106 : Go.Proofs.Lays.n106 Tryd.prog Tryd.lays106_ren := {
 mixed := by kernel_rfl
 f106 := Tryd.func75.trans (congrArg some (by kernel_rfl))
 f213 := Tryd.func129.trans (congrArg some (by kernel_rfl))
 f265 := Tryd.func162.trans (congrArg some (by kernel_rfl))
 t3 := Tryd.underlying3
 a3 := Tryd.isAgg3
 z3 := Tryd.sizeOf3
 v3 := Tryd.zeroValue3
 t9 := Tryd.underlying9
 a9 := Tryd.isAgg9
 z9 := Tryd.sizeOf9
 v9 := Tryd.zeroValue9 }
def Tryd.sortE_ren : Go.Shelf.Ren := ⟨fun | 6 => 73 | 15 => 128 | 14 => 127 | 28 => 160 | 29 => 161 | 20 => 152 | 21 => 153 | 22 => 154 | 23 => 155 | 24 => 156 | 25 => 157 | 26 => 158 | 27 => 159 | 46 => 172 | 47 => 173 | 48 => 174 | 49 => 175 | 50 => 176 | 57 => 182 | n => n, fun | 22 => 55 | 24 => 65 | 25 => 116 | 3 => 3 | 39 => 158 | 0 => 0 | 53 => 184 | 55 => 186 | 4 => 4 | 46 => 178 | 45 => 177 | 50 => 107 | 5 => 5 | 9 => 9 | 66 => 190 | 70 => 194 | 76 => 203 | 77 => 204 | n => n, fun | n => n⟩
theorem Tryd.sortE : Go.Proofs.SlLaysF0.n6 Tryd.prog Tryd.sortE_ren := {
 mixed := by kernel_rfl
 f6 := ⟨Tryd.f73.name, by decide, Tryd.func73.trans (congrArg some (by kernel_rfl))⟩
 f14 := ⟨Tryd.f127.name, by decide, Tryd.func127.trans (congrArg some (by kernel_rfl))⟩
 f15 := Tryd.func128.trans (congrArg some (by kernel_rfl))
 f20 := ⟨Tryd.f152.name, by decide, Tryd.func152.trans (congrArg some (by kernel_rfl))⟩
 f21 := ⟨Tryd.f153.name, by decide, Tryd.func153.trans (congrArg some (by kernel_rfl))⟩
 f22 := ⟨Tryd.f154.name, by decide, Tryd.func154.trans (congrArg some (by kernel_rfl))⟩
 f23 := ⟨Tryd.f155.name, by decide, Tryd.func155.trans (congrArg some (by kernel_rfl))⟩
 f24 := ⟨Tryd.f156.name, by decide, Tryd.func156.trans (congrArg some (by kernel_rfl))⟩
 f25 := ⟨Tryd.f157.name, by decide, Tryd.func157.trans (congrArg some (by kernel_rfl))⟩
 f26 := ⟨Tryd.f158.name, by decide, Tryd.func158.trans (congrArg some (by kernel_rfl))⟩
 f27 := ⟨Tryd.f159.name, by decide, Tryd.func159.trans (congrArg some (by kernel_rfl))⟩
 f28 := Tryd.func160.trans (congrArg some (by kernel_rfl))
 f29 := Tryd.func161.trans (congrArg some (by kernel_rfl))
 f46 := ⟨Tryd.f172.name, by decide, Tryd.func172.trans (congrArg some (by kernel_rfl))⟩
 f47 := Tryd.func173.trans (congrArg some (by kernel_rfl))
 f48 := Tryd.func174.trans (congrArg some (by kernel_rfl))
 f49 := ⟨Tryd.f175.name, by decide, Tryd.func175.trans (congrArg some (by kernel_rfl))⟩
 f50 := ⟨Tryd.f176.name, by decide, Tryd.func176.trans (congrArg some (by kernel_rfl))⟩
 f57 := ⟨Tryd.f182.name, by decide, Tryd.func182.trans (congrArg some (by kernel_rfl))⟩
 t0 := Tryd.underlying0
 a0 := Tryd.isAgg0
 z0 := Tryd.sizeOf0
 v0 := Tryd.zeroValue0
 t3 := Tryd.underlying3
 a3 := Tryd.isAgg3
 z3 := Tryd.sizeOf3
 v3 := Tryd.zeroValue3
 t4 := Tryd.underlying4
 a4 := Tryd.isAgg4
 z4 := Tryd.sizeOf4
 v4 := Tryd.zeroValue4
 t5 := Tryd.underlying5
 a5 := Tryd.isAgg5
 z5 := Tryd.sizeOf5
 v5 := Tryd.zeroValue5
 t9 := Tryd.underlying9
 a9 := Tryd.isAgg9
 z9 := Tryd.sizeOf9
 v9 := Tryd.zeroValue9
 t22 := Tryd.underlying55
 a22 := Tryd.isAgg55
 z22 := Tryd.sizeOf55
 v22 := Tryd.zeroValue55
 t25 := Tryd.underlying116
 a25 := Tryd.isAgg116
 z25 := Tryd.sizeOf116
 v25 := Tryd.zeroValue116
 t39 := Tryd.underlying158
 a39 := Tryd.isAgg158
 z39 := Tryd.sizeOf158
 v39 := Tryd.zeroValue158
 t45 := Tryd.underlying177
 a45 := Tryd.isAgg177
 z45 := Tryd.sizeOf177
 v45 := Tryd.zeroValue177
 t46 := Tryd.underlying178
 a46 := Tryd.isAgg178
 z46 := Tryd.sizeOf178
 v46 := Tryd.zeroValue178
 t50 := Tryd.underlying107
 a50 := Tryd.isAgg107
 z50 := Tryd.sizeOf107
 v50 := Tryd.zeroValue107
 t53 := Tryd.underlying184
 a53 := Tryd.isAgg184
 z53 := Tryd.sizeOf184
 v53 := Tryd.zeroValue184
 t55 := Tryd.underlying186
 a55 := Tryd.isAgg186
 z55 := Tryd.sizeOf186
 v55 := Tryd.zeroValue186
 t66 := Tryd.underlying190
 a66 := Tryd.isAgg190
 z66 := Tryd.sizeOf190
 v66 := Tryd.zeroValue190
 t70 := Tryd.underlying194
 a70 := Tryd.isAgg194
 z70 := Tryd.sizeOf194
 v70 := Tryd.zeroValue194
 t76 := Tryd.underlying203
 a76 := Tryd.isAgg203
 z76 := Tryd.sizeOf203
 v76 := Tryd.zeroValue203
 t77 := Tryd.underlying204
 a77 := Tryd.isAgg204
 z77 := Tryd.sizeOf204
 v77 := Tryd.zeroValue204 }
end Go.Proofs
namespace Go.Proofs.YtgaabjmbnomimaaDoor
open Go Go.RowKit
theorem inc_walk (b : Nat) (v : Int) (x y : Value) (w : World) (hb : w.heap[b]? = some (.cells #[.int .i64 v] 3 (0, 0))) :
   Calls Tryd.prog 170 #[x, y, .pointer (some ⟨b, 0, none⟩)] w fun e w' => e = .returned (.tuple #[]) /\ w' = w.setCell ⟨b, 0, none⟩ (.int .i64 (wrap64 (v + 1))) := by
 have h1 : w.cell? ⟨b, 0, none⟩ = some (.int .i64 v) := by simp [World.cell?, hb]
 have h2 : w.frozen? ⟨b, 0, none⟩ = false := by simp [World.frozen?, hb]
 go_enter Tryd.func170, Tryd.ntmps170
 go_wp2
 go_end0
 exact ⟨rfl, rfl⟩
structure Nx (w w' : World) (b : Nat) (v : Int) : Prop where
 os : w'.os = w.os
 tape : w'.tape = w.tape
 output : w'.output = w.output
 size : w.heap.size <= w'.heap.size
 keep : ∀ c, c < w.heap.size -> c ≠ b -> w'.heap[c]? = w.heap[c]?
 box : w'.heap[b]? = some (.cells #[.int .i64 v] 3 (0, 0))
theorem Nx.below {w w1 w2 : World} {b : Nat} {v : Int} (h : Nx w w1 b v) (hb : b < w.heap.size) (k : Below w1.heap.size w1 w2) : Nx w w2 b v :=
 ⟨k.os.trans h.os, k.tape.trans h.tape, k.output.trans h.output, Nat.le_trans h.size k.size, fun c hc hne => (k.block c (Nat.lt_of_lt_of_le hc h.size)).trans (h.keep c hc hne), (k.block b (Nat.lt_of_lt_of_le hb h.size)).trans h.box⟩
theorem setCell_box {w : World} {b : Nat} {x : Value} {t : TypeId} (h : w.heap[b]? = some (.cells #[x] t (0, 0))) (y : Value) : (w.setCell ⟨b, 0, none⟩ y).heap[b]? = some (.cells #[y] t (0, 0)) /\ (∀ c, c ≠ b -> (w.setCell ⟨b, 0, none⟩ y).heap[c]? = w.heap[c]?) /\ (w.setCell ⟨b, 0, none⟩ y).heap.size = w.heap.size := by
 have hlt : b < w.heap.size := (Array.getElem?_eq_some_iff.1 h).1
 refine ⟨?_, fun c hc => ?_, ?_⟩
 · simp [World.setCell, Array.getElem?_modify, h]
 · simp [World.setCell, Array.getElem?_modify, Ne.symm hc]
 · simp [World.setCell]
theorem Nx.set {w w1 : World} {b : Nat} {v : Int} (h : Nx w w1 b v) (u : Int) : Nx w (w1.setCell ⟨b, 0, none⟩ (.int .i64 u)) b u := by
 obtain ⟨h1, h2, h3⟩ := setCell_box h.box (.int .i64 u)
 exact ⟨h.os, h.tape, h.output, by rw [h3]; exact h.size, fun c hc hne => (h2 c hne).trans (h.keep c hc hne), h1⟩
theorem each_walk (s : ByteArray) (w : World) (b : Nat) (v : Int) (hb : w.heap[b]? = some (.cells #[.int .i64 v] 3 (0, 0))) (h2 : 3 <= b) (hv : 0 <= v) (hvs : v + s.size < 9223372036854775808) (hT : Lib.Utf8Tabs 1 2 w) (R : Option Nat) (hR : runesN s s.size 0 = R) :
   Calls Tryd.prog 180 #[.string s, .func (.func 170) #[] #[.pointer (some ⟨b, 0, none⟩)]] w fun e w' => ∃ v', Nx w w' b v' /\ match R with
     | some n => e = .returned (.tuple #[]) /\ v' = v + n
     | none => ∃ x, e = .panicked [{ v := .iface 199 x, recovered := false }] := by
 have hbl : b < w.heap.size := (Array.getElem?_eq_some_iff.1 hb).1
 have hnx0 : Nx w w b v := ⟨rfl, rfl, rfl, Nat.le_refl _, fun _ _ _ => rfl, hb⟩
 go_enter Tryd.func180, Tryd.ntmps180
 go_wp2
 go_loopw [] (fun wr => ∃ (pos fuel cnt : Nat), wr.heap[w.heap.size]? = some (.stringIter s pos) /\ Nx w wr b (v + cnt) /\ Hid (R = (runesN s fuel pos).map (· + cnt)) /\ s.size <= pos + fuel /\ cnt <= pos /\ cnt <= s.size) (fun wr => s.size - wr.iterPos w.heap.size)
 case atStart =>
   refine ⟨0, s.size, 0, World.iter_heap w s 0, ?_, ?_, by omega, by omega, by omega⟩
   · have := hnx0.below hbl ((Below.refl _ _).alloc (Nat.le_refl _) (.stringIter s 0))
     simpa [World.iter] using this
   · show R = _
     rw [hR]; cases R <;> simp
 case round =>
   obtain ⟨pos, fuel, cnt, hit, hnx, HS, hf, hc1, hc2⟩ := hrel
   have hpos0 := iterPos_of hit
   obtain ⟨c, hc⟩ : ∃ c, (Utf8.decode s pos).1 = c := ⟨_, rfl⟩
   obtain ⟨wd, hwd⟩ : ∃ wd, (Utf8.decode s pos).2 = wd := ⟨_, rfl⟩
   by_cases hp : pos < s.size
   · have hnext : ∀ ty, (Instr.next (.pointer (some ⟨w.heap.size, 0, none⟩)) true ty).run Tryd.prog wr = _ := fun ty => Lib.run_next_any_at wr w.heap.size s pos ty hit hp
     rw [hc, hwd] at hnext
     have hwd1 : 1 <= wd := by rw [<- hwd]; exact width_pos s pos
     obtain ⟨W1, hW1⟩ : ∃ W1, W1 = wr.iterAt w.heap.size s (pos + wd) := ⟨_, rfl⟩
     rw [<- hW1] at hnext
     have hit2 : W1.heap[w.heap.size]? = some (.stringIter s (pos + wd)) := by rw [hW1]; exact Lib.iterAt_heap wr _ s pos _ hit
     have hnx1 : Nx w W1 b (v + cnt) := by
       subst hW1
       exact ⟨hnx.os, hnx.tape, hnx.output, by rw [Lib.iterAt_size]; exact hnx.size, fun c hc hne => (Lib.iterAt_other wr _ c s _ (by omega)).trans (hnx.keep c hc hne), (Lib.iterAt_other wr _ b s _ (by omega)).trans hnx.box⟩
     have hbox1 := hnx1.box
     clear hW1 hit hnx
     have hinc := inc_walk b (v + cnt) (.int .i64 pos) (.int .i32 c) W1 hbox1
     by_cases hbad : c = 65533
     · subst hbad
       have hext : (s.extract pos s.size).data.toList = s.data.toList.drop pos := by
         simp only [ByteArray.data_extract, Array.toList_extract, List.extract_eq_drop_take]
         exact List.take_of_length_le (by simp)
       have hgo : Lib.decodeGo (s.extract pos s.size) = (65533, wd) := by
         have h1 : (s.extract pos s.size).size ≠ 0 := by simp; omega
         unfold Lib.decodeGo
         rw [if_neg h1, <- Lib.decodeL_drop, List.drop_zero, hext, Lib.decodeL_drop, <- hc, <- hwd]
       have hT1 : Lib.Utf8Tabs 1 2 W1 := by
         have k0 : W1.heap[1]? = w.heap[1]? := hnx1.keep 1 (by omega) (by omega)
         have k1 : W1.heap[2]? = w.heap[2]? := hnx1.keep 2 (by omega) (by omega)
         refine ⟨fun c hc => ?_, fun i hi => ⟨?_, ?_⟩⟩
         · have := hT.1 c hc
           simp only [World.cell?, k0] at this ⊢; exact this
         · have := (hT.2 i hi).1
           simp only [World.cell?, k1] at this ⊢; exact this
         · have := (hT.2 i hi).2
           simp only [World.cell?, k1] at this ⊢; exact this
       have cD := Any.utf8_DecodeRuneInString Tryd.lays197 (s.extract pos s.size) W1 hT1
       rw [hgo] at cD
       go_wp2_with (fail)
       refine Calls.mono cD ?_
       rintro e w2 ⟨rfl, hbw⟩
       simp only []
       go_at_K
       have hnx2 := hnx1.below hbl hbw
       obtain ⟨f, rfl⟩ : ∃ f, fuel = f + 1 := ⟨fuel - 1, by omega⟩
       by_cases hw2 : wd < 2
       · have e : R = none := by
           have := HS.out
           rw [this, runesN_step hc hwd hp, if_pos ⟨rfl, hw2⟩]; rfl
         subst e
         have hw2' : (wd : Int) < 2 := by omega
         go_wp2
         exact ⟨rfl, ⟨_, hnx2⟩, _, rfl⟩
       · have hit3 : w2.heap[w.heap.size]? = some (.stringIter s (pos + wd)) := (hbw.block _ (Array.getElem?_eq_some_iff.1 hit2).1).trans hit2
         have hinc := inc_walk b (v + cnt) (.int .i64 pos) (.int .i32 65533) w2 hnx2.box
         have hw2' : ¬ (wd : Int) < 2 := by omega
         go_wp2_with (fail)
         refine hinc.mono ?_
         rintro e w' ⟨rfl, rfl⟩
         simp only []
         go_at_K
         try go_wp2
         obtain ⟨g1, g2, g9003⟩ := setCell_box hnx2.box (.int .i64 (wrap64 (v + cnt + 1)))
         have hit4 := (g2 w.heap.size (by omega)).trans hit3
         have hw64 : wrap64 (v + cnt + 1) = v + ((cnt + 1 : Nat) : Int) := by (have : wrap64 (v + cnt + 1) = v + cnt + 1 := by unfold wrap64; omega); rw [this]; push_cast; omega
         refine ⟨⟨pos + wd, f, cnt + 1, hit4, by rw [hw64]; exact hnx2.set _, ?_, by omega, by omega, by omega⟩, ?_⟩
         · have := HS.out
           show R = _
           rw [this, runesN_step hc hwd hp, if_neg (by omega)]
           cases runesN s f (pos + wd) <;> simp; omega
         · rw [iterPos_of hit4, hpos0]; omega
     · have hbad' : ((c : Int) == 65533) = false := by simp; omega
       go_wp2_with (fail)
       refine hinc.mono ?_
       rintro e w' ⟨rfl, rfl⟩
       simp only []
       go_at_K
       try go_wp2
       obtain ⟨g1, g2, g9003⟩ := setCell_box hbox1 (.int .i64 (wrap64 (v + cnt + 1)))
       have hit3 := (g2 w.heap.size (by omega)).trans hit2
       have hw64 : wrap64 (v + cnt + 1) = v + ((cnt + 1 : Nat) : Int) := by (have : wrap64 (v + cnt + 1) = v + cnt + 1 := by unfold wrap64; omega); rw [this]; push_cast; omega
       refine ⟨⟨pos + wd, fuel - 1, cnt + 1, hit3, by rw [hw64]; exact hnx1.set _, ?_, by omega, by omega, by omega⟩, ?_⟩
       · have := HS.out
         show R = _
         rw [this]
         obtain ⟨f, rfl⟩ : ∃ f, fuel = f + 1 := ⟨fuel - 1, by omega⟩
         rw [runesN_step hc hwd hp, if_neg (by omega), Nat.add_sub_cancel]
         cases runesN s f (pos + wd) <;> simp; omega
       · rw [iterPos_of hit3, hpos0]; omega
   · have hnext : ∀ ty, (Instr.next (.pointer (some ⟨w.heap.size, 0, none⟩)) true ty).run Tryd.prog wr = _ := fun ty => Lib.run_next_end_at wr w.heap.size s pos ty hit hp
     have e : R = some cnt := by
       have := HS.out
       rw [this, runesN_end s hp]; simp
     subst e
     go_wp2
     go_end0
     exact ⟨hnx, rfl⟩
theorem catch_panicking (b : Nat) (x : Value) (u : Value) (older : List PanicEntry) (w : World) (hb : w.heap[b]? = some (.cells #[.bool false] 4 (0, 0))) :
   CallsD Tryd.prog 179 #[.pointer (some ⟨b, 0, none⟩)] (.panicking ({ v := .iface 199 u, recovered := false } :: older)) w fun e u' w' =>
     e = .returned (.tuple #[]) /\ u' = .panicking ({ v := .iface 199 u, recovered := true } :: older) /\ w' = (w.setCell ⟨b, 0, none⟩ (.bool true)).setCell ⟨b, 0, none⟩ (.bool false) := by
 have h1 : w.cell? ⟨b, 0, none⟩ = some (.bool false) := by simp [World.cell?, hb]
 have h2 : w.frozen? ⟨b, 0, none⟩ = false := by simp [World.frozen?, hb]
 refine callsD_of_wpS Tryd.func179 rfl fun c₀ cs hu => ?_
 apply wpS_seq
 apply wpS_region
 simp [wpOpsS, go_sem, recoverD, hu, Tryd.ntmps179, Exit.thenS]
 apply wpS_seq
 apply wpS_region
 simp [wpOpsS, go_sem, Exit.thenS]
 refine wpS_cond (t := true) (by simp [Act.eval, Array.replicate]) ?_
 simp only [if_true]
 apply wpS_seq
 apply wpS_region
 have h88 := Tryd.underlying199
 have hta : ∀ (w : World), (Instr.typeAssert (.iface 199 u) 20 199 true).run Tryd.prog w = .ok (.tuple #[u, .bool true]) w := fun w => by
   simp [Instr.typeAssert, Sem.run_bind, run_underlying h88, Result.andThen, Sem.run_pure]
 simp [wpOpsS, go_sem, hta, h1, h2, Exit.thenS]
 apply wpS_region
 simp [wpOpsS, go_sem, h1, h2, bodyPostS, results, Tryd.results179]
theorem catch_idle (b : Nat) (w : World) :
   CallsD Tryd.prog 179 #[.pointer (some ⟨b, 0, none⟩)] .returning w fun e u' w' => e = .returned (.tuple #[]) /\ u' = .returning /\ w' = w := by
 have hnn : ∀ w, (binOp .neq 20 .nilIface .nilIface).run Tryd.prog w = .ok (.bool false) w := fun w => Lib.run_neq_nil_nil w Tryd.underlying20
 refine callsD_of_wpS Tryd.func179 rfl fun c₀ cs hu => ?_
 apply wpS_seq
 apply wpS_region
 simp [wpOpsS, go_sem, recoverD, hu, Tryd.ntmps179, Exit.thenS]
 apply wpS_seq
 apply wpS_region
 simp [wpOpsS, go_sem, hnn, Exit.thenS]
 refine wpS_cond (t := false) (by simp [Act.eval, Array.replicate]) ?_
 simp only [Bool.false_eq_true, if_false]
 refine wpS_of_wp (wp_skip ?_)
 cases c₀
 simp_all [bodyPostS, results, Tryd.results179]
theorem Utf8Tabs.alloc {w : World} (hT : Lib.Utf8Tabs 1 2 w) (h : 3 <= w.heap.size) (o : Obj) : Lib.Utf8Tabs 1 2 (w.alloc o) := by
 have hb : Below w.heap.size w (w.alloc o) := (Below.refl _ _).alloc (Nat.le_refl _) o
 have k0 := hb.block 1 (by omega)
 have k1 := hb.block 2 (by omega)
 refine ⟨fun c hc => ?_, fun i hi => ⟨?_, ?_⟩⟩
 · have := hT.1 c hc
   simp only [World.cell?, k0] at this ⊢; exact this
 · have := (hT.2 i hi).1
   simp only [World.cell?, k1] at this ⊢; exact this
 · have := (hT.2 i hi).2
   simp only [World.cell?, k1] at this ⊢; exact this
theorem through_walk (s : ByteArray) (w : World) (b : Nat) (v : Int) (hb : w.heap[b]? = some (.cells #[.int .i64 v] 3 (0, 0))) (h2 : 3 <= b) (hv : 0 <= v) (hvs : v + s.size < 9223372036854775808) (hT : Lib.Utf8Tabs 1 2 w) (R : Option Nat) (hR : runesN s s.size 0 = R) :
   Calls Tryd.prog 169 #[.string s, .func (.func 170) #[] #[.pointer (some ⟨b, 0, none⟩)]] w fun e w' => ∃ v', Nx w w' b v' /\ e = .returned (.bool R.isSome) /\ ∀ n, R = some n -> v' = v + n := by
 have hbl : b < w.heap.size := (Array.getElem?_eq_some_iff.1 hb).1
 obtain ⟨W1, hW1⟩ : ∃ W1, W1 = w.alloc (.cells #[.bool false] 4 (0, 0)) := ⟨_, rfl⟩
 have hbelow : Below w.heap.size w W1 := by rw [hW1]; exact (Below.refl _ _).alloc (Nat.le_refl _) _
 have hb1 : W1.heap[b]? = some (.cells #[.int .i64 v] 3 (0, 0)) := (hbelow.block b hbl).trans hb
 have hT1 : Lib.Utf8Tabs 1 2 W1 := by rw [hW1]; exact Utf8Tabs.alloc hT (by omega) _
 have hok : W1.heap[w.heap.size]? = some (.cells #[.bool false] 4 (0, 0)) := by rw [hW1]; exact World.alloc_heap_new w _
 have hsz1 : w.heap.size < W1.heap.size := (Array.getElem?_eq_some_iff.1 hok).1
 have hE := each_walk s W1 b v hb1 h2 hv hvs hT1 R hR
 have hmf : ∀ (fn : Fn) (first cap : Array Value) (w : World), (Instr.makeFunc fn first cap).run Tryd.prog w = .ok (.func fn first cap) w := fun _ _ _ _ => rfl
 go_enter_defers Tryd.func169, Tryd.ntmps169
 go_wp2_with (fail)
 rw [hW1] at hE
 refine hE.mono ?_
 rintro e w2 ⟨v', hn, he⟩
 have hok2 : w2.heap[w.heap.size]? = some (.cells #[.bool false] 4 (0, 0)) := (hn.keep _ (hW1 ▸ hsz1) (by omega)).trans (hW1 ▸ hok)
 have hnx : Nx w w2 b v' := by
   subst hW1
   exact ⟨hn.os, hn.tape, hn.output, Nat.le_trans hbelow.size hn.size, fun c hc hne => (hn.keep c (Nat.lt_of_lt_of_le hc hbelow.size) hne).trans (hbelow.block c hc), hn.box⟩
 have hset : ∀ (w3 : World) (y : Value), Nx w w3 b v' -> w3.heap[w.heap.size]? = some (.cells #[y] 4 (0, 0)) -> ∀ z, Nx w (w3.setCell ⟨w.heap.size, 0, none⟩ z) b v' /\ (w3.setCell ⟨w.heap.size, 0, none⟩ z).heap[w.heap.size]? = some (.cells #[z] 4 (0, 0)) := by
   intro w3 y h3 h4 z
   obtain ⟨g1, g2, g9003⟩ := setCell_box h4 z
   exact ⟨⟨h3.os, h3.tape, h3.output, by rw [g9003]; exact h3.size, fun c hc hne => (g2 c (by omega)).trans (h3.keep c hc hne), (g2 b (by omega)).trans h3.box⟩, g1⟩
 cases R with
 | none =>
   obtain ⟨x, rfl⟩ := he
   simp only []
   refine leaves_cons (f := 179) (args := #[.pointer (some ⟨w.heap.size, 0, none⟩)]) (by simp) (by simp [go_sem]) ?_
   refine (catch_panicking w.heap.size x x [] _ hok2).mono ?_
   rintro e u' w'' ⟨rfl, rfl, rfl⟩
   obtain ⟨n1, b1⟩ := hset w2 _ hnx hok2 (.bool true)
   obtain ⟨n2, b2⟩ := hset _ _ n1 b1 (.bool false)
   have c2 : ((w2.setCell ⟨w.heap.size, 0, none⟩ (.bool true)).setCell ⟨w.heap.size, 0, none⟩ (.bool false)).cell? ⟨w.heap.size, 0, none⟩ = some (.bool false) := by simp [World.cell?, b2]
   simp [Leaves, settle, results, Tryd.results169, go_sem, c2]
   exact ⟨v', n2⟩
 | some n =>
   obtain ⟨rfl, rfl⟩ := he
   simp only []
   rename_i hk1 hk2
   have c1 : w2.cell? ⟨w.heap.size, 0, none⟩ = some (.bool false) := by simp [World.cell?, hok2]
   have f1 : w2.frozen? ⟨w.heap.size, 0, none⟩ = false := by simp [World.frozen?, hok2]
   obtain ⟨n1, b1⟩ := hset w2 _ hnx hok2 (.bool true)
   have c2 : (w2.setCell ⟨w.heap.size, 0, none⟩ (.bool true)).cell? ⟨w.heap.size, 0, none⟩ = some (.bool true) := by simp [World.cell?, b1]
   apply hk2
   go_wp2
   refine leaves_cons (f := 179) (args := #[.pointer (some ⟨w.heap.size, 0, none⟩)]) (by simp) (by simp [go_sem]) ?_
   refine (catch_idle w.heap.size _).mono ?_
   rintro e u' w'' ⟨rfl, rfl, rfl⟩
   simp [Leaves, settle, results, Tryd.results169, go_sem, c2]
   exact n1
set_option maxRecDepth 100000 in
theorem runes_walk (s : ByteArray) (w : World) (h2 : 3 <= w.heap.size) (hvs : s.size < 9223372036854775808) (hT : Lib.Utf8Tabs 1 2 w) (R : Option Nat) (hR : runesN s s.size 0 = R) :
   Calls Tryd.prog 148 #[.string s] w fun e w' => e = .returned (.int .i64 (runesI R)) /\ Below w.heap.size w w' := by
 have hok : (w.alloc (.cells #[.int .i64 0] 3 (0, 0))).heap[w.heap.size]? = some (.cells #[.int .i64 0] 3 (0, 0)) := World.alloc_heap_new w _
 have hbelow : Below w.heap.size w (w.alloc (.cells #[.int .i64 0] 3 (0, 0))) := (Below.refl _ _).alloc (Nat.le_refl _) _
 have hE := through_walk s _ w.heap.size 0 hok h2 (by omega) (by omega) (Utf8Tabs.alloc hT h2 _) R hR
 have hset := (setCell_box hok (.int .i64 0)).1
 have hmf : ∀ (fn : Fn) (first cap : Array Value) (w : World), (Instr.makeFunc fn first cap).run Tryd.prog w = .ok (.func fn first cap) w := fun _ _ _ _ => rfl
 go_enter Tryd.func148, Tryd.ntmps148
 go_wp2_with (fail)
 refine hE.mono ?_
 rintro e w2 ⟨v', hn, rfl, hv⟩
 have hbel : Below w.heap.size w w2 := ⟨hn.os, hn.tape, hn.output, Nat.le_trans hbelow.size hn.size, fun c hc => (hn.keep c (Nat.lt_of_lt_of_le hc hbelow.size) (by omega)).trans (hbelow.block c hc)⟩
 have c1 : w2.cell? ⟨w.heap.size, 0, none⟩ = some (.int .i64 v') := by simp [World.cell?, hn.box]
 rename_i hk1 hk2
 cases R with
 | none =>
   simp only [Option.isSome_none]
   clear hE hn hT hok hbelow hset hv
   apply hk2
   go_wp2
   try go_wp2
   first | (go_ret; exact ⟨rfl, hbel⟩) | (go_ret2; exact ⟨rfl, hbel⟩) | (go_end0; exact ⟨rfl, hbel⟩) | (simp [bodyPost, results, Tryd.results148, Act.put]; exact hbel)
 | some n =>
   obtain rfl : v' = (n : Int) := by have := hv n rfl; omega
   simp only [Option.isSome_some]
   clear hE hn hT hok hbelow hset hv
   apply hk2
   go_wp2
   try go_wp2
   first | (go_ret; exact ⟨rfl, hbel⟩) | (go_ret2; exact ⟨rfl, hbel⟩) | (go_end0; exact ⟨rfl, hbel⟩) | (simp [bodyPost, results, Tryd.results148, Act.put]; exact hbel)
end Go.Proofs.YtgaabjmbnomimaaDoor
namespace Go.Proofs.YtgaabjmbnomimaaDoor
open Go Go.Ev
def Kw (w : World) : Prop := Lib.Utf8Tabs 1 2 w /\ 3 <= w.heap.size
theorem tabs_of {w0 w : World} (h : Lib.Utf8Tabs 1 2 w0) (k0 : w.heap[1]? = w0.heap[1]?) (k1 : w.heap[2]? = w0.heap[2]?) : Lib.Utf8Tabs 1 2 w := by
 refine ⟨fun c hc => ?_, fun i hi => ⟨?_, ?_⟩⟩
 · have := h.1 c hc
   simp only [World.cell?, k0] at this ⊢; exact this
 · have := (h.2 i hi).1
   simp only [World.cell?, k1] at this ⊢; exact this
 · have := (h.2 i hi).2
   simp only [World.cell?, k1] at this ⊢; exact this
theorem based_tabs {w : World} {A : Nat -> Prop} {bl : Bl} {H : Hp} (hcx : CtxOk Tryd.prog Kw bl.cx) (hH : RepH w A bl H) : Kw w := by
 obtain ⟨w0, h1, h2⟩ := hH.base
 obtain ⟨h3, h4⟩ := hcx.base w0 h1
 have hlt := hH.alt 2 (h2 2 (by omega)).1
 exact ⟨tabs_of h3 (h2 1 (by omega)).2 (h2 2 (by omega)).2, by omega⟩
theorem sound148 {args vals : List V} {H H' : Hp} (h : x148 args H = some (vals, H')) : Enter Tryd.prog 148 /\ Sound Tryd.prog Kw 148 args H vals H' := by
 unfold x148 at h
 split at h
 case h_2 => simp at h
 rename_i s
 split at h <;> simp only [Option.some.injEq, Prod.mk.injEq, reduceCtorEq] at h
 rename_i hs
 obtain ⟨rfl, rfl⟩ := h
 refine ⟨fun args w => ?_, fun w A bl us hcx hH hargs => ?_⟩
 · simp only [callFunc, Sem.run_bind, run_program, Result.andThen_ok, Tryd.func148]
   rfl
 · obtain ⟨hl, hr⟩ := hargs
   match us, hl, hr with
   | [u], _, hr =>
     have hu := (hr 0 _ u rfl rfl).str_inv
     subst hu
     obtain ⟨hT, h2⟩ := based_tabs hcx hH
     have hsz : (⟨s.toArray⟩ : ByteArray).size = s.length := by simp [ByteArray.size]
     have hw := runes_walk ⟨s.toArray⟩ w h2 (by rw [hsz]; omega) hT _ rfl
     refine hw.mono ?_
     rintro e w' ⟨rfl, hb⟩
     have g : Grow w w' := ⟨hb.os, hb.tape, hb.output, hb.size, fun b hb' => hb.block b hb'⟩
     obtain ⟨q1, q2⟩ := grow hH g (N := fun _ => False) (fun b hb => hb.elim)
     refine ⟨_, bl, [_], rfl, ⟨rfl, fun j x u hj hu => ?_⟩, q1, q2, g.evo (fun b hb => .inl hb) (fun b hb => hb.elim .inl False.elim)⟩
     cases j with
     | zero =>
       simp at hj hu
       subst hj; subst hu
       rw [hsz]
       exact .int _ _
     | succ j => simp at hj
end Go.Proofs.YtgaabjmbnomimaaDoor
namespace Go.Proofs.YtgaabjmbnomimaaDoor
open Go Go.Ev Go.Sort
theorem compareBytes_eq : ∀ a b : List UInt8, Lib.compareBytes a b = cmpB a b
 | [], [] => rfl
 | [], _ :: _ => rfl
 | _ :: _, [] => rfl
 | a :: x, b :: y => by
   rw [Lib.compareBytes, compareBytes_eq x y]
   simp only [cmpB, Op.bytesLess, Bool.or_eq_true, decide_eq_true_eq, Bool.and_eq_true, beq_iff_eq]
   by_cases h1 : a < b
   · simp [h1]
   · by_cases h2 : b < a
     · have h3 : a ≠ b := fun e => by subst e; exact h1 h2
       simp [h1, h2, h3]
     · have e : a = b := by
         rw [UInt8.lt_iff_toNat_lt] at h1 h2
         exact UInt8.toNat_inj.1 (by omega)
       subst e
       simp [h1]
theorem compare_walk (s t : Bys) (w : World) : Calls Tryd.prog 75 #[.string ⟨s.toArray⟩, .string ⟨t.toArray⟩] w fun e w' => e = .returned (.int .i64 (cmpB s t)) /\ w' = w := by
 have h := Any.strings_Compare Tryd.lays106 ⟨s.toArray⟩ ⟨t.toArray⟩ w
 rw [show (ByteArray.mk s.toArray).data.toList = s from rfl, show (ByteArray.mk t.toArray).data.toList = t from rfl, compareBytes_eq] at h
 exact h
set_option maxHeartbeats 2000000 in
theorem order_walk (p q : Bys) (v1 v2 : Value) (W : World) : Calls Tryd.prog 74 #[.agg #[.string ⟨p.toArray⟩, v1], .agg #[.string ⟨q.toArray⟩, v2]] W fun e w' => e = .returned (.int .i64 (cmpB p q)) /\ ∃ n os', w' = grow (W.drewN n) os' := by
 have h1 := fun W' => compare_walk p q W'
 obtain ⟨s, hs⟩ : ∃ s, s = cmpB p q := ⟨_, rfl⟩
 simp only [<- hs] at h1 ⊢
 clear hs
 go_enter Tryd.func74, Tryd.ntmps74
 go_wp2_with (go_at_call 75; refine (h1 _).mono ?_; rintro e w' ⟨rfl, rfl⟩)
 all_goals go_ret
 all_goals exact ⟨rfl, 0, _, by rw [alloc_eq_grow, alloc_eq_grow, grow_grow]; rfl⟩
theorem enter73 : Enter Tryd.prog 73 := fun args w => by
 simp only [callFunc, Sem.run_bind, run_program, Result.andThen_ok, Tryd.func73]
 rfl
theorem enter74 (args : Array Value) (w : World) : (callFunc 74 args).run Tryd.prog w = .ok (.enter 74 args) w := by
 simp only [callFunc, Sem.run_bind, run_program, Result.andThen_ok, Tryd.func74]
 rfl
theorem mixedOk : Tryd.prog.follows .mixedOrders = true := by kernel_rfl
noncomputable def E1 : Env := E0 (fun _ => none) (fun _ _ _ => none)
theorem empty73 : callN E1 40 73 [.buf 0 0 0 0, .fn 74 []] [.mem 2 0 []] = some ([], [.mem 2 0 []]) := by kernel_rfl
def encT (vs : Nat -> Value) (t : Tg) : List Value := [.string ⟨t.1.toArray⟩, vs t.2]
theorem sort_walk (vs : Nat -> Value) (hv : ∀ n, (vs n).oneCell' = true) (zs : List Tg) (b d cap : Nat) (w : World) (hH : HoldsK (encT vs) 2 w b d zs.toArray) (hb : b < w.heap.size) (hz : zs.length < 4611686018427387904) :
   Calls Tryd.prog 73 #[.slice (some ⟨b, d, none⟩) zs.length cap, .func (.func 74) #[] #[]] w fun e w' => e = .returned (.tuple #[]) /\ ∃ n os, w' = sortWorldK (encT vs) 2 w b d n (sortT zs).toArray os := by
 have h := AnyQ.slices_SortFunc_eq Tryd.sortE 2 Tryd.isAgg65 Tryd.sizeOf65 (encT vs) (fun _ => rfl) (fun x v h => by
     simp only [encT, List.mem_cons, List.not_mem_nil, or_false] at h
     rcases h with rfl | rfl
     · rfl
     · exact hv _) (fun x y : Tg => cmpB x.1 y.1) swoT 74 #[] b d cap zs.toArray w enter74 (fun _ _ _ _ x y => order_walk x.1 y.1 _ _ _) hH hb (by simpa using hz)
 have e1 : zs.toArray.size = zs.length := by simp
 have e2 : (sortT zs).toArray = pdq (ltOf fun x y : Tg => cmpB x.1 y.1) zs.toArray 0 zs.toArray.size (Lib.bitLen zs.toArray.size) true true := by
   rw [e1]; rfl
 rw [e2]
 rw [e1] at h ⊢
 exact h
theorem flat_getT (vs : Nat -> Value) (l : List Tg) (k j : Nat) (hk : k < l.length) (hj : j < 2) : (flatK (encT vs) 2 l.toArray)[k * 2 + j]! = (encT vs l[k])[j]! := by
 rw [get_flatK (encT vs) 2 l.toArray (k * 2 + j) (by simp; omega)]
 have e1 : (k * 2 + j) / 2 = k := by omega
 have e2 : (k * 2 + j) % 2 = j := by omega
 rw [e1, e2]
 have : l.toArray[k]! = l[k] := by simp [hk]
 rw [this]
theorem isEnts_at {xs : List (List C)} (h : isEnts xs = true) {x : List C} (hx : x ∈ xs) : ∃ p y, x = [.str p, .sl 5 none false y] := by
 have := List.all_eq_true.1 h x hx
 have h2 := shape_ok this
 exact ⟨_, _, h2.symm⟩
set_option maxHeartbeats 1000000 in
theorem sound73 {args vals : List V} {H H' : Hp} (h : x73 args H = some (vals, H')) : Enter Tryd.prog 73 /\ Sound Tryd.prog Kw 73 args H vals H' := by
 unfold x73 at h
 split at h
 case h_2 => simp at h
 rename_i len xs
 split at h <;> simp only [Option.some.injEq, Prod.mk.injEq, reduceCtorEq] at h
 rename_i hc
 obtain ⟨hi, rfl, hlt⟩ := hc
 obtain ⟨rfl, rfl⟩ := h
 refine ⟨enter73, ?_⟩
 by_cases hne : xs = []
 · subst hne
   have e : sortX [] = [] := List.length_eq_zero_iff.1 (sortX_len [] (by simp))
   rw [e]
   exact (callN_sound (K := Kw) (draw_ok mixedOk) (env_ok fun g f args H vals H' h => by cases h) 40 _ _ _ _ _ empty73).2
 intro w A bl us hcx hH hargs
 obtain ⟨hl, hr⟩ := hargs
 match us, hl, hr with
 | [u, v], _, hr =>
   have hv := hr 1 _ v rfl rfl
   have hv' : v = .func (.func 74) #[] #[] := by
     cases hv with
     | fn _ _ vs hs _ =>
       have : vs = #[] := by apply Array.eq_empty_of_size_eq_zero; simpa using hs.symm
       rw [this]
   subst hv'
   have hu := hr 0 _ u rfl rfl
   cases hu with
   | buf _ _ _ _ a l cap k1 k2 k3 =>
     obtain ⟨j1, rfl, ⟨j2, j3, j4⟩, j5⟩ := k3 2 xs rfl
     have hpos : 0 < xs.length := List.length_pos_iff.2 hne
     obtain ⟨b, d, n, h1, rfl, h3, h4⟩ := j5 (by omega)
     obtain ⟨o1, o2, o3⟩ := hH.obj 0 _ rfl
     obtain ⟨arr, t, g1, g2, g3⟩ := o3 b d h1
     have hblt : b < w.heap.size := (hH.lt 0 b d ⟨_, rfl, rfl⟩ h1).1
     obtain ⟨vs, hvs⟩ : ∃ vs : Nat -> Value, vs = fun m => if m < xs.length then (arr[d + m * 2 + 1]?).getD .nilFunc else .nilFunc := ⟨_, rfl⟩
     have hvr : ∀ m, (hm : m < xs.length) -> arr[d + m * 2 + 1]? = some (vs m) /\ ∀ c, xs[m][1]? = some c -> RepC w A c (vs m) := fun m hm => by
       have hlen := o1 xs[m] (List.getElem_mem hm)
       obtain ⟨u, u1, u2⟩ := g3 m 1 xs[m] (xs[m][1]'(by omega)) (List.getElem?_eq_getElem hm) (List.getElem?_eq_getElem _)
       have : vs m = u := by rw [hvs]; simp only [if_pos hm, u1, Option.getD_some]
       refine ⟨by rw [this]; exact u1, fun c hc => ?_⟩
       rw [List.getElem?_eq_getElem (by omega), Option.some.injEq] at hc
       rw [this, <- hc]; exact u2
     have hv1 : ∀ m, (vs m).oneCell' = true := fun m => by
       by_cases hm : m < xs.length
       · have hlen := o1 xs[m] (List.getElem_mem hm)
         exact repC_one ((hvr m hm).2 _ (List.getElem?_eq_getElem (show 1 < xs[m].length by omega)))
       · rw [hvs]; simp only [if_neg hm]; rfl
     have htl := tagE_len 0 xs
     have hpt : ∀ m, (hm : m < xs.length) -> ∃ y, xs[m] = [.str (xs[m].headD .pnil).st, y] := fun m hm => by
       obtain ⟨p, y, e⟩ := isEnts_at hi (List.getElem_mem hm)
       exact ⟨_, by rw [e]; rfl⟩
     have hcell : ∀ t, t < (tagE 0 xs).length * 2 -> arr[d + t]? = some ((flatK (encT vs) 2 (tagE 0 xs).toArray)[t]!) := fun t ht => by
       have hk : t / 2 < xs.length := by omega
       have hj : t % 2 < 2 := by omega
       have e : t / 2 * 2 + t % 2 = t := by omega
       conv => rhs; rw [<- e, flat_getT vs _ _ _ (by omega) hj, tagE_get 0 xs _ hk]
       obtain ⟨y, hy⟩ := hpt _ hk
       rcases Nat.lt_or_ge (t % 2) 1 with h0 | h0
       · have e0 : t % 2 = 0 := by omega
         obtain ⟨u, u1, u2⟩ := g3 (t / 2) 0 xs[t / 2] (.str (xs[t / 2].headD .pnil).st) (List.getElem?_eq_getElem hk) (by rw [hy]; rfl)
         rw [e0, show d + t = d + t / 2 * 2 + 0 by omega, u1]
         cases u2; rfl
       · have e0 : t % 2 = 1 := by omega
         rw [e0, show d + t = d + t / 2 * 2 + 1 by omega, (hvr _ hk).1, Nat.zero_add]; rfl
     have hHolds : HoldsK (encT vs) 2 w b d (tagE 0 xs).toArray := fun j hj => by
       have hj' : j < (tagE 0 xs).length * 2 := by simpa using hj
       refine ⟨?_, by simp [World.frozen?, g1]⟩
       rw [cell_of_heap g1, hcell j hj']
       rfl
     have hs := sort_walk vs hv1 (tagE 0 xs) b d cap w hHolds hblt (by omega)
     rw [htl] at hs
     have e0 : (⟨b, d + 0 * 2, none⟩ : Addr) = ⟨b, d, none⟩ := by simp
     rw [e0]
     refine Calls.mono hs ?_
     rintro e w' ⟨rfl, nn, os, hw'⟩
     have hspec := sortT_spec (tagE 0 xs) (by omega)
     have hlen : (sortT (tagE 0 xs)).length = xs.length := by rw [hspec.1.length_eq, htl]
     have hmem : ∀ t ∈ sortT (tagE 0 xs), ∃ h : t.2 < xs.length, t.1 = (xs[t.2].headD .pnil).st := fun t ht => tagE_mem (hspec.1.mem_iff.1 ht)
     have hX : sortX xs = (sortT (tagE 0 xs)).map fun t => xs.getD t.2 [] := rfl
     rw [hX]
     generalize sortT (tagE 0 xs) = ss at *
     have hfs : (flatK (encT vs) 2 ss.toArray).size = xs.length * 2 := by simp [hlen]
     replace hw' : w' = Go.Sort.grow (putRow id (Sort.ahead w nn) b d (flatK (encT vs) 2 ss.toArray)) os := hw'
     have hw1 : (putRow id (Sort.ahead w nn) b d (flatK (encT vs) 2 ss.toArray)).heap[b]? = some (.cells (putCells id d (flatK (encT vs) 2 ss.toArray) arr) t (0, 0)) := by
       simp [putRow, mapBlock, Array.getElem?_modify, g1, onCells]
     have hk1 : ∀ c, c ≠ b -> (putRow id (Sort.ahead w nn) b d (flatK (encT vs) 2 ss.toArray)).heap[c]? = w.heap[c]? := fun c hc => by
       simp [putRow, mapBlock, Array.getElem?_modify, Ne.symm hc]
     have hsz1 : (putRow id (Sort.ahead w nn) b d (flatK (encT vs) 2 ss.toArray)).heap.size = w.heap.size := by simp
     have hos2 : (putRow id (Sort.ahead w nn) b d (flatK (encT vs) 2 ss.toArray)).os = w.os /\ (putRow id (Sort.ahead w nn) b d (flatK (encT vs) 2 ss.toArray)).tape = w.tape /\ (putRow id (Sort.ahead w nn) b d (flatK (encT vs) 2 ss.toArray)).output = w.output := ⟨rfl, rfl, rfl⟩
     generalize putRow id (Sort.ahead w nn) b d (flatK (encT vs) 2 ss.toArray) = W2 at hw1 hk1 hsz1 hw' hos2
     subst hw'
     have hps : (putCells id d (flatK (encT vs) 2 ss.toArray) arr).size = arr.size := by simp [putCells]
     have hml : (ss.map fun t => xs.getD t.2 []).length = xs.length := by rw [List.length_map, hlen]
     have hle := le_set (o' := O.mem 2 0 (ss.map fun t => xs.getD t.2 [])) hH (i0 := 0) rfl rfl h1 g1 hps hw1 hk1 (fun z e xs' he => by
       simp only [O.mem.injEq] at he
       obtain ⟨rfl, rfl, rfl⟩ := he
       exact ⟨0, xs, rfl, Nat.le_refl _, fun _ => by rw [hml]⟩) (fun cs he => by cases he)
     have hat : ∀ k, (hk : k < ss.length) -> (ss.map fun t => xs.getD t.2 [])[k]? = some (xs[(ss[k]).2]'(hmem _ (List.getElem_mem hk)).1) := fun k hk => by
       rw [List.getElem?_map, List.getElem?_eq_getElem hk, Option.map_some, List.getD_eq_getElem?_getD, List.getElem?_eq_getElem (hmem _ (List.getElem_mem hk)).1]; rfl
     have hrep := rep_set hH (i0 := 0) rfl rfl h1 hle hk1 hsz1 (by
       refine ⟨fun cs hcs => ?_, fun hn => (by rw [h1] at hn; cases hn), fun b' d' hb' => ?_⟩
       · obtain ⟨k, hk, rfl⟩ := List.getElem_of_mem hcs
         have hk2 : k < ss.length := by simpa using hk
         have := hat k hk2
         rw [List.getElem?_eq_getElem hk, Option.some.injEq] at this
         rw [this]; exact o1 _ (List.getElem_mem _)
       · rw [h1] at hb'
         simp only [Option.some.injEq, Prod.mk.injEq] at hb'
         obtain ⟨rfl, rfl⟩ := hb'
         refine ⟨_, t, hw1, by rw [hps, hml]; exact g2, fun k j cs x hk hj => ?_⟩
         have hk' : k < ss.length := by have := (List.getElem?_eq_some_iff.1 hk).1; simpa using this
         rw [hat k hk', Option.some.injEq] at hk
         obtain ⟨hm, hmp⟩ := hmem _ (List.getElem_mem hk')
         subst hk
         have hj2 : j < 2 := by have := (List.getElem?_eq_some_iff.1 hj).1; rw [o1 _ (List.getElem_mem hm)] at this; exact this
         have hlt2 : d + k * 2 + j < arr.size := by omega
         have hval : (putCells id d (flatK (encT vs) 2 ss.toArray) arr)[d + k * 2 + j]? = some ((encT vs ss[k])[j]!) := by
           simp only [putCells, Array.getElem?_mapIdx, Array.getElem?_eq_getElem hlt2, Option.map_some, Option.some.injEq]
           rw [if_pos ⟨by omega, by rw [hfs]; omega⟩]
           have e5 : d + k * 2 + j - d = k * 2 + j := by omega
           rw [e5]
           exact flat_getT vs ss k j hk' hj2
         refine ⟨_, hval, ?_⟩
         have hC : ∀ c, A c -> W2.heap[c]? = w.heap[c]? := fun c hc => hk1 c fun e => (hH.lt 0 b d ⟨_, rfl, rfl⟩ h1).2 (e ▸ hc)
         rcases Nat.lt_or_ge j 1 with h0 | h0
         · obtain rfl : j = 0 := by omega
           obtain ⟨y, hy⟩ := hpt _ hm
           rw [hy] at hj
           simp only [List.getElem?_cons_zero, Option.some.injEq] at hj
           rw [<- hj, <- hmp]
           exact .str _
         · obtain rfl : j = 1 := by omega
           exact ((hvr _ hm).2 _ hj).mono hC fun _ h => h) hos2
     have g : Grow W2 (Go.Sort.grow W2 os) := ⟨rfl, rfl, rfl, by simp, fun c hc => heap_grow_old W2 os hc⟩
     have hset : ([O.mem 2 0 xs] : Hp).set 0 (O.mem 2 0 (ss.map fun t => xs.getD t.2 [])) = [O.mem 2 0 (ss.map fun t => xs.getD t.2 [])] := rfl
     rw [hset] at hrep hle
     obtain ⟨q1, q2⟩ := Ev.grow hrep g (N := fun _ => False) (fun b hb => hb.elim)
     refine ⟨_, bl, [], rfl, ⟨rfl, fun j x u hj => by simp at hj⟩, q1, hle.trans q2, ?_⟩
     refine Evo.trans (A1 := A) (L1 := Liv bl [O.mem 2 0 (ss.map fun t => xs.getD t.2 [])]) ?_ (g.evo (fun b hb => .inl hb) (fun b hb => hb.elim .inl False.elim))
     exact ⟨hos2.1, hos2.2.1, hos2.2.2, by omega, fun c hc hL => hk1 c fun e => hL (.inl ⟨0, d, ⟨_, rfl, rfl⟩, e ▸ h1⟩), fun c hc => .inl (liv_set (i0 := 0) (o := .mem 2 0 xs) rfl rfl hc), fun c hc => .inl hc⟩
end Go.Proofs.YtgaabjmbnomimaaDoor
namespace Go.Proofs.YtgaabjmbnomimaaDoor
open Go Go.Ev
theorem drawOk : DrawOk Tryd.prog Kw := draw_ok mixedOk
theorem envOk : EnvOk Tryd.prog Kw E := env_ok fun g f args H vals H' h1 h2 => by
 unfold xt at h1
 split at h1 <;> simp only [Option.some.injEq, reduceCtorEq] at h1
 · subst h1; exact sound148 h2
 · subst h1; exact sound149 h2
 · subst h1; exact sound118 h2
 · subst h1; exact sound122 h2
 · subst h1; exact sound72 h2
 · subst h1; exact sound73 h2
end Go.Proofs.YtgaabjmbnomimaaDoor
namespace Go.Proofs.YtgaabjmbnomimaaDoor
open Go Go.Ev
set_option maxRecDepth 100000
theorem rdI {t : TypeId} (ht : Tryd.prog.underlying t = some (.int .i64)) {n : Nat} {xs : List C} (h : Rd Tryd.prog n t xs) : ∃ v, xs = [.int .i64 v] := by
 cases n with
 | zero => exact h.elim
 | succ n =>
   simp only [Rd, ht] at h
   obtain ⟨v, rfl, _⟩ := h
   exact ⟨v, rfl⟩
theorem rdS {t : TypeId} (ht : Tryd.prog.underlying t = some .string) {n : Nat} {xs : List C} (h : Rd Tryd.prog n t xs) : ∃ v, xs = [.str v] := by
 cases n with
 | zero => exact h.elim
 | succ n =>
   simp only [Rd, ht] at h
   obtain ⟨v, rfl, _⟩ := h
   exact ⟨v, rfl⟩
theorem rdL {α : Type} {t e : TypeId} {z : Nat} (ht : Tryd.prog.underlying t = some (.slice e)) (hz : Tryd.prog.cellsOf e = z) (enc : α -> List C) (he : ∀ {n : Nat} {xs : List C}, Rd Tryd.prog n e xs -> ∃ a, xs = enc a) {n : Nat} {xs : List C} (h : Rd Tryd.prog n t xs) :
   ∃ l : List α, xs = [.sl z none false (l.map enc)] /\ l.length <= maxLen := by
 cases n with
 | zero => exact h.elim
 | succ n =>
   simp only [Rd, ht] at h
   obtain ⟨ys, rfl, hq, hy⟩ := h
   have : ∃ l : List α, ys = l.map enc := by
     clear hq
     induction ys with
     | nil => exact ⟨[], rfl⟩
     | cons y r ih =>
       obtain ⟨l, rfl⟩ := ih (fun z hz => hy z (by simp [hz]))
       obtain ⟨c, rfl⟩ := he (hy y (by simp))
       exact ⟨c :: l, rfl⟩
   obtain ⟨l, rfl⟩ := this
   exact ⟨l, by rw [hz], by simpa using hq⟩
theorem rdVal {n : Nat} {xs : List C} (h : Rd Tryd.prog n 100 xs) : ∃ v : Val, xs = ev v := by
 cases n with
 | zero => exact h.elim
 | succ n =>
   rw [Rd, Tryd.underlying100] at h
   obtain ⟨parts, hl, rfl, hp⟩ := h
   match parts, hl with
   | [p, q, r], _ =>
     obtain ⟨k, rfl⟩ := rdI Tryd.underlying98 (hp 0 _ p rfl rfl)
     obtain ⟨m, rfl⟩ := rdI Tryd.underlying3 (hp 1 _ q rfl rfl)
     obtain ⟨s, rfl⟩ := rdS Tryd.underlying9 (hp 2 _ r rfl rfl)
     exact ⟨⟨k, m, s⟩, rfl⟩
theorem rdRow {n : Nat} {xs : List C} (h : Rd Tryd.prog n 102 xs) : ∃ r : Row, xs = er r := by
 cases n with
 | zero => exact h.elim
 | succ n =>
   rw [Rd, Tryd.underlying102] at h
   obtain ⟨parts, hl, rfl, hp⟩ := h
   match parts, hl with
   | [p, q, r], _ =>
     obtain ⟨x, rfl⟩ := rdI Tryd.underlying3 (hp 0 _ p rfl rfl)
     obtain ⟨y, rfl⟩ := rdI Tryd.underlying3 (hp 1 _ q rfl rfl)
     obtain ⟨v, rfl⟩ := rdVal (hp 2 _ r rfl rfl)
     exact ⟨⟨x, y, v⟩, rfl⟩
theorem rdRows {n : Nat} {xs : List C} (h : Rd Tryd.prog n 29 xs) : ∃ l : List Row, xs = [.sl 5 none false (rows l)] /\ l.length <= maxLen :=
 rdL Tryd.underlying29 (by kernel_rfl) er rdRow h
theorem rdInts {n : Nat} {xs : List C} (h : Rd Tryd.prog n 37 xs) : ∃ l : List Int, xs = [.sl 1 none false (ints l)] /\ l.length <= maxLen :=
 rdL Tryd.underlying37 (by kernel_rfl) ei (fun h => rdI Tryd.underlying3 h) h
theorem arC {α : Type} {t : TypeId} (enc : α -> C) (ha : aggAt Tryd.prog t = false) (he : ∀ {n : Nat} {xs : List C}, Rd Tryd.prog n t xs -> ∃ a, xs = [enc a]) {v : V} {vl : List V} {ts : List TypeId} (h : Args Tryd.prog (t :: ts) (v :: vl)) : (∃ a, v = .c (enc a)) /\ Args Tryd.prog ts vl := by
 obtain ⟨⟨n, xs, h1, e0⟩, h2⟩ := h
 subst e0
 obtain ⟨a, rfl⟩ := he h1
 refine ⟨⟨a, ?_⟩, h2⟩
 unfold argV
 rw [ha]
theorem arA {α : Type} {t : TypeId} (enc : α -> List C) (ha : aggAt Tryd.prog t = true) (he : ∀ {n : Nat} {xs : List C}, Rd Tryd.prog n t xs -> ∃ a, xs = enc a) {v : V} {vl : List V} {ts : List TypeId} (h : Args Tryd.prog (t :: ts) (v :: vl)) : (∃ a, v = .agg ((enc a).map .c)) /\ Args Tryd.prog ts vl := by
 obtain ⟨⟨n, xs, h1, e0⟩, h2⟩ := h
 subst e0
 obtain ⟨a, rfl⟩ := he h1
 refine ⟨⟨a, ?_⟩, h2⟩
 unfold argV
 rw [ha]
theorem ar3 {v : V} {vl : List V} {ts : List TypeId} (h : Args Tryd.prog (3 :: ts) (v :: vl)) : (∃ n : Int, v = V.i n) /\ Args Tryd.prog ts vl := arC (fun n => .int .i64 n) (by kernel_rfl) (fun h => rdI Tryd.underlying3 h) h
theorem args1 {a : TypeId} {vl : List V} (h : Args Tryd.prog [a] vl) : ∃ v, vl = [v] := by
 cases vl with
 | nil => exact h.elim
 | cons v r => cases r with
   | nil => exact ⟨v, rfl⟩
   | cons _ _ => exact h.2.elim
theorem args2 {a b : TypeId} {vl : List V} (h : Args Tryd.prog [a, b] vl) : ∃ v w, vl = [v, w] := by
 cases vl with
 | nil => exact h.elim
 | cons v r => obtain ⟨w, rfl⟩ := args1 (a := b) h.2; exact ⟨v, w, rfl⟩
theorem args3 {a b c : TypeId} {vl : List V} (h : Args Tryd.prog [a, b, c] vl) : ∃ v w x, vl = [v, w, x] := by
 cases vl with
 | nil => exact h.elim
 | cons v r => obtain ⟨w, x, rfl⟩ := args2 (a := b) (b := c) h.2; exact ⟨v, w, x, rfl⟩
theorem kw_of {l : List (String × DataW Unit)} {W : World} (hA : ("unicode/utf8.acceptRanges", Rows.laid_unicode_utf8_acceptRanges) ∈ l) (hF : ("unicode/utf8.first", Rows.laid_unicode_utf8_first) ∈ l) (h : laidMet Tryd.prog l W) : Kw W := by
 have ha : Rows.laid_unicode_utf8_acceptRanges = Lib.acceptData := by kernel_rfl
 have hf : Rows.laid_unicode_utf8_first = Lib.firstData := Pinned.utf8First_eq
 have hU : Lib.Utf8Tabs 1 2 W :=
   utf8Tabs_of_readsT (ρ := Tryd.lays197_ren) { Tryd.lays197 with } ⟨by kernel_rfl, by kernel_rfl, by kernel_rfl, by kernel_rfl, by kernel_rfl, by kernel_rfl, by kernel_rfl⟩ (hf ▸ Lib.laidMet.reads h hF) (ha ▸ Lib.laidMet.reads h hA)
 refine ⟨hU, ?_⟩
 have h1 := (hU.2 0 (by omega)).1
 rcases Nat.lt_or_ge 2 W.heap.size with h2 | h2
 · exact h2
 · exfalso
   simp only [World.cell?] at h1
   rw [Array.getElem?_eq_none h2] at h1
   simp at h1
def firstCells : Obj -> Obj
 | .cells _ t frozen => .cells (Lib.firstTab.map (Value.int .u8)).toArray t frozen
 | o => o
def acceptCells : Obj -> Obj
 | .cells _ t frozen => .cells (((List.range 16).flatMap fun i => [Value.int .u8 (Lib.accLo i), Value.int .u8 (Lib.accHi i)])).toArray t frozen
 | o => o
noncomputable def laidWorld (os : Os) : World :=
 { World.holding Tryd.prog os ⟨#[], #[], []⟩ with heap := ((World.holding Tryd.prog os ⟨#[], #[], []⟩).heap.modify 1 firstCells).modify 2 acceptCells }
theorem own : ownKnob Tryd.prog.godebug = none := by kernel_rfl
end Go.Proofs.YtgaabjmbnomimaaDoor
namespace Go.Proofs.YtgaabjmbnomimaaDoor
open Go Go.Ev
set_option maxRecDepth 100000
theorem rdSl {t : TypeId} (ht : Tryd.prog.underlying t = some .string) {n : Nat} {xs : List C} (h : Rd Tryd.prog n t xs) : ∃ v : List UInt8, xs = [.str v] /\ v.length <= maxLen := by
 cases n with
 | zero => exact h.elim
 | succ n =>
   simp only [Rd, ht] at h
   exact h
theorem rdT : ∀ (n : Nat) (xs : List C), (Rd Tryd.prog n 31 xs -> ∃ t : Nd, xs = t.enc /\ lensT t = true) /\ (Rd Tryd.prog n 23 xs -> ∃ ks : List Nd, xs = [.sl 3 none false (encL ks)] /\ lensL ks = true /\ ks.length <= maxLen)
 | 0, xs => ⟨fun h => h.elim, fun h => h.elim⟩
 | n + 1, xs => by
   refine ⟨fun h => ?_, fun h => ?_⟩
   · rw [Rd, Tryd.underlying31] at h
     obtain ⟨parts, hl, rfl, hp⟩ := h
     match parts, hl with
     | [p, q, r], _ =>
       obtain ⟨s, rfl, h1⟩ := rdSl Tryd.underlying9 (hp 0 _ p rfl rfl)
       obtain ⟨rs, rfl, h2⟩ := rdRows (hp 1 _ q rfl rfl)
       obtain ⟨ks, rfl, h3, h4⟩ := (rdT n r).2 (hp 2 _ r rfl rfl)
       refine ⟨.node s rs ks, by rw [Nd.enc]; rfl, ?_⟩
       have hm : maxLen <= 9223372036854775807 := by decide
       rw [lensT, h3]
       simp only [Bool.and_eq_true, decide_eq_true_eq]
       exact ⟨⟨⟨by omega, by omega⟩, by omega⟩, trivial⟩
   · rw [Rd, Tryd.underlying23] at h
     obtain ⟨ys, rfl, hq, hy⟩ := h
     have hz : Tryd.prog.cellsOf 31 = 3 := by kernel_rfl
     have : ∃ l : List Nd, ys = encL l /\ lensL l = true := by
       clear hq
       induction ys with
       | nil => exact ⟨[], rfl, rfl⟩
       | cons y r ih =>
         obtain ⟨l, rfl, hl⟩ := ih (fun z hz => hy z (by simp [hz]))
         obtain ⟨t, rfl, ht⟩ := (rdT n y).1 (hy y (by simp))
         exact ⟨t :: l, by rw [encL], by rw [lensL, ht, hl]; rfl⟩
     obtain ⟨l, rfl, hl⟩ := this
     exact ⟨l, by rw [hz], hl, by simpa using hq⟩
end Go.Proofs.YtgaabjmbnomimaaDoor
