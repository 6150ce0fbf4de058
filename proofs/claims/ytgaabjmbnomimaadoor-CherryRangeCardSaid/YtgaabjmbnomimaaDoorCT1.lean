/-
  Chapter 12 (graph): the trees of graph's check, written by a program: each is what the kernel computes; Chapter 12 (graph): what graph's check computes; Chapter 12 (graph): more trees of graph's check, written by a program; Chapter 12 (graph): ContainsFunc, fault; Chapter 12 (graph): trees of fault, written by a program; Chapter 12 (graph): fault; Chapter 12 (graph): trees, written by a program; Chapter 12 (graph): Check, few; Chapter 12 (graph): trees, written by a program; Chapter 12 (graph): has, reach, list; Radix trees: trees, written by a program: what a walk hands over, where all is wan.
-/
import Derived.Test.YtgaabjmbnomimaaDoorARunD
import Derived.Test.YtgaabjmbnomimaaDoorRP1
set_option linter.all false
namespace Go.Proofs.YtgaabjmbnomimaaDoor.Gr
open Go Go.Ev
noncomputable abbrev p167 : Par := par E sh (ctOf []) 167 2 1
noncomputable abbrev p168 : Par := par E sh (ctOf []) 168 3 2
noncomputable abbrev p114 : Par := par E sh (ctOf []) 114 2 1
theorem t167 (n : Int) (nl : OBo) (t : Bool) (xs : LLC) : p167.ft [V.i n, V.ptr 0 0 0 0] [O.box [V.c (C.sl 2 nl t xs)]] = Tr.br (decide (n < 1)) (Tr.leaf (R.out [V.c (C.bool true)] [O.box [V.c (C.sl 2 nl t xs)]])) (Tr.leaf (R.out [V.c (C.bool (decide ((↑xs.length : Int) < n)))] [O.box [V.c (C.sl 2 nl t xs)]])) := by kernel_rfl
theorem t168 (n : Int) (nl : OBo) (t : Bool) (xs : LLC) (c : C) (st : Int) : p168.ft [V.i n, V.ptr 0 0 0 0, V.ptr 1 0 0 0] [O.box [V.c (C.sl 2 nl t xs)], O.box [V.c c, V.i st]] = Tr.chk (decide (0 <= IntKind.i64.wrap (n - 1))) (Tr.chk true (Tr.chk (decide ((IntKind.i64.wrap (n - 1)).toNat < xs.length)) (Tr.chk (shOk [Sk.sl 1, Sk.int IntKind.i64] (xs.getD (IntKind.i64.wrap (n - 1)).toNat [])) (Tr.leaf (R.out [V.c (C.bool (decide (st <= ((xs.getD (IntKind.i64.wrap (n - 1)).toNat []).tail.headD C.pnil).i)))] [O.box [V.c (C.sl 2 nl t xs)], O.box [V.c c, V.c (C.int IntKind.i64 st)]]))))) := by kernel_rfl
theorem t114 (n : Int) (nl : OBo) (t : Bool) (xs : LLC) : p114.ft [V.i n, V.ptr 0 0 0 0] [O.box [V.c (C.sl 2 nl t xs)]] = Tr.br (decide (n < 1)) (Tr.leaf (R.out [V.c (C.bool true)] [O.box [V.c (C.sl 2 nl t xs)]])) (Tr.leaf (R.out [V.c (C.bool (decide ((↑xs.length : Int) < n)))] [O.box [V.c (C.sl 2 nl t xs)]])) := by kernel_rfl
noncomputable abbrev p51a : Par := par E sh (ctOf [(167, s167)]) 143 2 1
noncomputable abbrev p51c : Par := par E sh (ctOf [(114, s114)]) 143 2 1
noncomputable abbrev p51b : Par := par E sh (ctOf [(168, s168)]) 143 2 2
noncomputable abbrev b143 : Code := loopAt (codeOf E 143) 0
theorem t51a (nl : OBo) (t : Bool) (xs : LLC) (nl2 : OBo) (t2 : Bool) (ys : LLC) : p51a.ft [V.c (C.sl 1 nl t xs), V.fn 167 [V.ptr 0 0 0 0]] [O.box [V.c (C.sl 2 nl2 t2 ys)]] = Tr.lp 0 [(0, V.c (C.sl 1 nl t xs)), (1, V.fn 167 [V.ptr 0 0 0 0]), (7, V.c (C.int IntKind.i64 (↑xs.length : Int))), (8, V.c (C.int IntKind.i64 0))] [O.box [V.c (C.sl 2 nl2 t2 ys)]] := by kernel_rfl
theorem t51a_0 (nl : OBo) (t : Bool) (xs : LLC) (m : Int) (i : Int) (nl2 : OBo) (t2 : Bool) (ys : LLC) : p51a.lt b143 [(0, V.c (C.sl 1 nl t xs)), (1, V.fn 167 [V.ptr 0 0 0 0]), (7, V.i m), (8, V.i i)] [O.box [V.c (C.sl 2 nl2 t2 ys)]] = Tr.br (decide (i < m)) (Tr.chk (decide (0 <= i)) (Tr.chk true (Tr.chk (decide (i.toNat < xs.length)) (Tr.chk (shOk [Sk.int IntKind.i64] (xs.getD i.toNat [])) (Tr.br (noNum ys.length ((xs.getD i.toNat []).headD C.pnil).i) (Tr.leaf (R.st Ex.ret [(4, V.c (C.int IntKind.i64 i))] [O.box [V.c (C.sl 2 nl2 t2 ys)]])) (Tr.leaf (R.st Ex.nrm [(0, V.c (C.sl 1 nl t xs)), (1, V.fn 167 [V.ptr 0 0 0 0]), (7, V.c (C.int IntKind.i64 m)), (8, V.c (C.int IntKind.i64 (IntKind.i64.wrap (i + 1))))] [O.box [V.c (C.sl 2 nl2 t2 ys)]]))))))) (Tr.leaf (R.st (Ex.exit 0) [(0, V.c (C.sl 1 nl t xs)), (1, V.fn 167 [V.ptr 0 0 0 0]), (7, V.c (C.int IntKind.i64 m)), (8, V.c (C.int IntKind.i64 i)), (9, V.c (C.bool false))] [O.box [V.c (C.sl 2 nl2 t2 ys)]])) := by kernel_rfl
theorem t51a_0x0 (i : Int) (nl2 : OBo) (t2 : Bool) (ys : LLC) : p51a.fk 0 Ex.ret [(4, V.c (C.int IntKind.i64 i))] [O.box [V.c (C.sl 2 nl2 t2 ys)]] = Tr.leaf (R.out [V.c (C.int IntKind.i64 i)] [O.box [V.c (C.sl 2 nl2 t2 ys)]]) := by kernel_rfl
theorem t51a_0x1 (nl : OBo) (t : Bool) (xs : LLC) (m : Int) (i : Int) (nl2 : OBo) (t2 : Bool) (ys : LLC) : p51a.fk 0 (Ex.exit 0) [(0, V.c (C.sl 1 nl t xs)), (1, V.fn 167 [V.ptr 0 0 0 0]), (7, V.c (C.int IntKind.i64 m)), (8, V.c (C.int IntKind.i64 i)), (9, V.c (C.bool false))] [O.box [V.c (C.sl 2 nl2 t2 ys)]] = Tr.leaf (R.out [V.c (C.int IntKind.i64 (-1))] [O.box [V.c (C.sl 2 nl2 t2 ys)]]) := by kernel_rfl
theorem t51c (nl : OBo) (t : Bool) (xs : LLC) (nl2 : OBo) (t2 : Bool) (ys : LLC) : p51c.ft [V.c (C.sl 1 nl t xs), V.fn 114 [V.ptr 0 0 0 0]] [O.box [V.c (C.sl 2 nl2 t2 ys)]] = Tr.lp 0 [(0, V.c (C.sl 1 nl t xs)), (1, V.fn 114 [V.ptr 0 0 0 0]), (7, V.c (C.int IntKind.i64 (↑xs.length : Int))), (8, V.c (C.int IntKind.i64 0))] [O.box [V.c (C.sl 2 nl2 t2 ys)]] := by kernel_rfl
theorem t51c_0 (nl : OBo) (t : Bool) (xs : LLC) (m : Int) (i : Int) (nl2 : OBo) (t2 : Bool) (ys : LLC) : p51c.lt b143 [(0, V.c (C.sl 1 nl t xs)), (1, V.fn 114 [V.ptr 0 0 0 0]), (7, V.i m), (8, V.i i)] [O.box [V.c (C.sl 2 nl2 t2 ys)]] = Tr.br (decide (i < m)) (Tr.chk (decide (0 <= i)) (Tr.chk true (Tr.chk (decide (i.toNat < xs.length)) (Tr.chk (shOk [Sk.int IntKind.i64] (xs.getD i.toNat [])) (Tr.br (noNum ys.length ((xs.getD i.toNat []).headD C.pnil).i) (Tr.leaf (R.st Ex.ret [(4, V.c (C.int IntKind.i64 i))] [O.box [V.c (C.sl 2 nl2 t2 ys)]])) (Tr.leaf (R.st Ex.nrm [(0, V.c (C.sl 1 nl t xs)), (1, V.fn 114 [V.ptr 0 0 0 0]), (7, V.c (C.int IntKind.i64 m)), (8, V.c (C.int IntKind.i64 (IntKind.i64.wrap (i + 1))))] [O.box [V.c (C.sl 2 nl2 t2 ys)]]))))))) (Tr.leaf (R.st (Ex.exit 0) [(0, V.c (C.sl 1 nl t xs)), (1, V.fn 114 [V.ptr 0 0 0 0]), (7, V.c (C.int IntKind.i64 m)), (8, V.c (C.int IntKind.i64 i)), (9, V.c (C.bool false))] [O.box [V.c (C.sl 2 nl2 t2 ys)]])) := by kernel_rfl
theorem t51c_0x0 (i : Int) (nl2 : OBo) (t2 : Bool) (ys : LLC) : p51c.fk 0 Ex.ret [(4, V.c (C.int IntKind.i64 i))] [O.box [V.c (C.sl 2 nl2 t2 ys)]] = Tr.leaf (R.out [V.c (C.int IntKind.i64 i)] [O.box [V.c (C.sl 2 nl2 t2 ys)]]) := by kernel_rfl
theorem t51c_0x1 (nl : OBo) (t : Bool) (xs : LLC) (m : Int) (i : Int) (nl2 : OBo) (t2 : Bool) (ys : LLC) : p51c.fk 0 (Ex.exit 0) [(0, V.c (C.sl 1 nl t xs)), (1, V.fn 114 [V.ptr 0 0 0 0]), (7, V.c (C.int IntKind.i64 m)), (8, V.c (C.int IntKind.i64 i)), (9, V.c (C.bool false))] [O.box [V.c (C.sl 2 nl2 t2 ys)]] = Tr.leaf (R.out [V.c (C.int IntKind.i64 (-1))] [O.box [V.c (C.sl 2 nl2 t2 ys)]]) := by kernel_rfl
theorem t51b (nl : OBo) (t : Bool) (xs : LLC) (nl2 : OBo) (t2 : Bool) (ys : LLC) (c : C) (st : Int) : p51b.ft [V.c (C.sl 1 nl t xs), V.fn 168 [V.ptr 0 0 0 0, V.ptr 1 0 0 0]] [O.box [V.c (C.sl 2 nl2 t2 ys)], O.box [V.c c, V.i st]] = Tr.lp 0 [(0, V.c (C.sl 1 nl t xs)), (1, V.fn 168 [V.ptr 0 0 0 0, V.ptr 1 0 0 0]), (7, V.c (C.int IntKind.i64 (↑xs.length : Int))), (8, V.c (C.int IntKind.i64 0))] [O.box [V.c (C.sl 2 nl2 t2 ys)], O.box [V.c c, V.c (C.int IntKind.i64 st)]] := by kernel_rfl
theorem t51b_0 (nl : OBo) (t : Bool) (xs : LLC) (m : Int) (i : Int) (nl2 : OBo) (t2 : Bool) (ys : LLC) (c : C) (st : Int) : p51b.lt b143 [(0, V.c (C.sl 1 nl t xs)), (1, V.fn 168 [V.ptr 0 0 0 0, V.ptr 1 0 0 0]), (7, V.i m), (8, V.i i)] [O.box [V.c (C.sl 2 nl2 t2 ys)], O.box [V.c c, V.i st]] = Tr.br (decide (i < m)) (Tr.chk (decide (0 <= i)) (Tr.chk true (Tr.chk (decide (i.toNat < xs.length)) (Tr.chk (shOk [Sk.int IntKind.i64] (xs.getD i.toNat [])) (Tr.chk (isRepo ys) (Tr.chk (!noNum ys.length ((xs.getD i.toNat []).headD C.pnil).i) (Tr.chk (decide (ys.length <= 500)) (Tr.br (lateFor (toRepo ys) st ((xs.getD i.toNat []).headD C.pnil).i) (Tr.leaf (R.st Ex.ret [(4, V.c (C.int IntKind.i64 i))] [O.box [V.c (C.sl 2 nl2 t2 ys)], O.box [V.c c, V.c (C.int IntKind.i64 st)]])) (Tr.leaf (R.st Ex.nrm [(0, V.c (C.sl 1 nl t xs)), (1, V.fn 168 [V.ptr 0 0 0 0, V.ptr 1 0 0 0]), (7, V.c (C.int IntKind.i64 m)), (8, V.c (C.int IntKind.i64 (IntKind.i64.wrap (i + 1))))] [O.box [V.c (C.sl 2 nl2 t2 ys)], O.box [V.c c, V.c (C.int IntKind.i64 st)]])))))))))) (Tr.leaf (R.st (Ex.exit 0) [(0, V.c (C.sl 1 nl t xs)), (1, V.fn 168 [V.ptr 0 0 0 0, V.ptr 1 0 0 0]), (7, V.c (C.int IntKind.i64 m)), (8, V.c (C.int IntKind.i64 i)), (9, V.c (C.bool false))] [O.box [V.c (C.sl 2 nl2 t2 ys)], O.box [V.c c, V.c (C.int IntKind.i64 st)]])) := by kernel_rfl
theorem t51b_0x0 (i : Int) (nl2 : OBo) (t2 : Bool) (ys : LLC) (c : C) (st : Int) : p51b.fk 0 Ex.ret [(4, V.c (C.int IntKind.i64 i))] [O.box [V.c (C.sl 2 nl2 t2 ys)], O.box [V.c c, V.c (C.int IntKind.i64 st)]] = Tr.leaf (R.out [V.c (C.int IntKind.i64 i)] [O.box [V.c (C.sl 2 nl2 t2 ys)], O.box [V.c c, V.c (C.int IntKind.i64 st)]]) := by kernel_rfl
theorem t51b_0x1 (nl : OBo) (t : Bool) (xs : LLC) (m : Int) (i : Int) (nl2 : OBo) (t2 : Bool) (ys : LLC) (c : C) (st : Int) : p51b.fk 0 (Ex.exit 0) [(0, V.c (C.sl 1 nl t xs)), (1, V.fn 168 [V.ptr 0 0 0 0, V.ptr 1 0 0 0]), (7, V.c (C.int IntKind.i64 m)), (8, V.c (C.int IntKind.i64 i)), (9, V.c (C.bool false))] [O.box [V.c (C.sl 2 nl2 t2 ys)], O.box [V.c c, V.c (C.int IntKind.i64 st)]] = Tr.leaf (R.out [V.c (C.int IntKind.i64 (-1))] [O.box [V.c (C.sl 2 nl2 t2 ys)], O.box [V.c c, V.c (C.int IntKind.i64 st)]]) := by kernel_rfl
end Go.Proofs.YtgaabjmbnomimaaDoor.Gr
namespace Go.Proofs.YtgaabjmbnomimaaDoor.Gr
open Go Go.Ev
theorem noNum_if (len : Nat) (n : Int) : (if n < 1 then true else decide ((len : Int) < n)) = noNum len n := by
 unfold noNum
 by_cases h : n < 1 <;> simp [h]
theorem f167 (n : Int) (nl : OBo) (t : Bool) (xs : LLC) : call E 167 [V.i n, .ptr 0 0 0 0] [.box [.c (.sl 2 nl t xs)]] = some ([V.b (noNum xs.length n)], [.box [.c (.sl 2 nl t xs)]]) := by
 refine call_of (E := E) (sh := sh) (ct := ctOf []) (na := 2) (m := 1) ctOf_nil rfl rfl rfl rfl rfl rfl ?_
 rw [t167, fd_br]
 simp only [fd_leaf, decide_eq_true_eq, <- noNum_if]
 split <;> rfl
theorem f114 (n : Int) (nl : OBo) (t : Bool) (xs : LLC) : call E 114 [V.i n, .ptr 0 0 0 0] [.box [.c (.sl 2 nl t xs)]] = some ([V.b (noNum xs.length n)], [.box [.c (.sl 2 nl t xs)]]) := by
 refine call_of (E := E) (sh := sh) (ct := ctOf []) (na := 2) (m := 1) ctOf_nil rfl rfl rfl rfl rfl rfl ?_
 rw [t114, fd_br]
 simp only [fd_leaf, decide_eq_true_eq, <- noNum_if]
 split <;> rfl
theorem f168 (n : Int) (nl : OBo) (t : Bool) (l : List Cm) (c : C) (st : Int) (hl : l.length <= 500) (hn : noNum l.length n = false) :
   call E 168 [V.i n, .ptr 0 0 0 0, .ptr 1 0 0 0] [.box [.c (.sl 2 nl t (repo l))], .box [.c c, V.i st]] = some ([V.b (lateFor l st n)], [.box [.c (.sl 2 nl t (repo l))], .box [.c c, V.i st]]) := by
 refine call_of (E := E) (sh := sh) (ct := ctOf []) (na := 3) (m := 2) ctOf_nil rfl rfl rfl rfl rfl rfl ?_
 simp only [noNum, Bool.or_eq_false_iff, decide_eq_false_iff_not] at hn
 have hw := wrap_same (n := n - 1) (by omega) (by omega)
 have hi : (n - 1).toNat < l.length := by omega
 rw [t168, hw, fd_chk (by simp; omega), fd_chk rfl, fd_chk (by simpa using hi), repo_getD hi, fd_chk (ec_ok _), fd_leaf]
 have hg : l.getD (n - 1).toNat ([], 0) = l[(n - 1).toNat] := by rw [List.getD_eq_getElem?_getD, List.getElem?_eq_getElem hi]; rfl
 rw [ec_stamp, lateFor, hg]
theorem s167_ok : CSpecOk E 167 s167 := by
 intro a h cs vals h' he hc
 unfold s167 at he
 split at he <;> simp only [Option.some.injEq, Prod.mk.injEq, reduceCtorEq] at he
 obtain ⟨rfl, rfl, rfl⟩ := he
 exact f167 _ _ _ _
theorem s114_ok : CSpecOk E 114 s114 := by
 intro a h cs vals h' he hc
 unfold s114 s167 at he
 split at he <;> simp only [Option.some.injEq, Prod.mk.injEq, reduceCtorEq] at he
 obtain ⟨rfl, rfl, rfl⟩ := he
 exact f114 _ _ _ _
theorem s168_ok : CSpecOk E 168 s168 := by
 intro a h cs vals h' he hc
 unfold s168 at he
 split at he <;> simp only [Option.some.injEq, Prod.mk.injEq, reduceCtorEq] at he
 rename_i n nl t xs c st
 obtain ⟨rfl, rfl, rfl⟩ := he
 simp only [allT, Bool.and_eq_true, Bool.not_eq_true', decide_eq_true_eq, and_true] at hc
 obtain ⟨h1, h2, h3⟩ := hc
 have e := repo_of h1
 have hlen : xs.length = (toRepo xs).length := by simp [toRepo]
 rw [hlen] at h2 h3
 have := f168 n nl t (toRepo xs) c st h3 h2
 rw [<- e] at this
 exact this
def firstAt (Q : Int -> Bool) (l : List Int) : Int := match l.findIdx? Q with
 | some i => i
 | none => -1
theorem findIdx_drop {Q : Int -> Bool} {l : List Int} {k : Nat} (h : ∀ j (hj : j < l.length), j < k -> Q l[j] = false) (hk : k < l.length) (hq : Q l[k] = true) : l.findIdx? Q = some k := by
 rw [List.findIdx?_eq_some_iff_getElem]
 exact ⟨hk, hq, fun j hj => by simpa using h j (by omega) hj⟩
theorem f51a (l : List Int) (nl : OBo) (t : Bool) (nl2 : OBo) (t2 : Bool) (ys : LLC) (hl : l.length <= 4294967296) :
   call E 143 [.c (.sl 1 nl t (ints l)), .fn 167 [.ptr 0 0 0 0]] [.box [.c (.sl 2 nl2 t2 ys)]] = some ([V.i (firstAt (noNum ys.length) l)], [.box [.c (.sl 2 nl2 t2 ys)]]) := by
 have hct : CT.ok E (ctOf [(167, s167)]) := ctOf_cons s167_ok ctOf_nil
 refine call_of (E := E) (sh := sh) (ct := ctOf [(167, s167)]) (na := 2) (m := 1) hct rfl rfl rfl rfl rfl rfl ?_
 rw [t51a]
 have hloop := loop_of (p := p51a) hct (b := b143) (fun k : Nat => ([(0, .c (.sl 1 nl t (ints l))), (1, .fn 167 [.ptr 0 0 0 0]), (7, V.i l.length), (8, V.i k)], [.box [.c (.sl 2 nl2 t2 ys)]]))
   (fun k => k <= l.length /\ ∀ j (hj : j < l.length), j < k -> noNum ys.length l[j] = false) (fun k => l.length - k)
   (fun _ => match l.findIdx? (noNum ys.length) with
     | some i => (.ret, [(4, V.i i)], [.box [.c (.sl 2 nl2 t2 ys)]])
     | none => (.exit 0, [(0, .c (.sl 1 nl t (ints l))), (1, .fn 167 [.ptr 0 0 0 0]), (7, V.i l.length), (8, V.i l.length), (9, V.b false)], [.box [.c (.sl 2 nl2 t2 ys)]]))
   (by
     rintro k ⟨hk, hq⟩
     simp only [t51a_0]
     rcases Nat.lt_or_ge k l.length with h | h
     · have hget : l.getD k 0 = l[k] := by rw [List.getD_eq_getElem?_getD, List.getElem?_eq_getElem h]; rfl
       have hw := wrap_same (n := (k : Int) + 1) (by omega) (by omega)
       simp only [ld_br, ld_chk, ints_length, Int.toNat_natCast, ints_getD h, ei_ok, ei_i, hget, hw, ld_leaf, h, Int.ofNat_lt, decide_true, Int.natCast_nonneg, if_true]
       cases hx : noNum ys.length l[k] with
       | true =>
         rw [findIdx_drop hq h hx]
         exact .inr ⟨by simp, by simp⟩
       | false =>
         refine .inl ⟨k + 1, ⟨by omega, fun j hj hjk => ?_⟩, by omega, trivial, by simp⟩
         rcases Nat.lt_or_ge j k with h' | h'
         · exact hq j hj h'
         · have : j = k := by omega
           subst this; exact hx
     · have : k = l.length := by omega
       subst this
       have : l.findIdx? (noNum ys.length) = none := by
         rw [List.findIdx?_eq_none_iff]
         intro x hx
         obtain ⟨j, hj, rfl⟩ := List.getElem_of_mem hx
         exact hq j hj hj
       rw [this]
       refine .inr ⟨by simp, ?_⟩
       simp [ld_br, ld_leaf]) 0 ⟨Nat.zero_le _, fun j hj h => by omega⟩
 rw [ints_length]
 unfold firstAt
 cases h : l.findIdx? (noNum ys.length) with
 | none =>
   simp only [h] at hloop
   exact fd_lp (p := p51a) hct (by kernel_rfl) hloop (by rw [t51a_0x1]; rfl)
 | some i =>
   simp only [h] at hloop
   exact fd_lp (p := p51a) hct (by kernel_rfl) hloop (by rw [t51a_0x0]; rfl)
theorem f51c (l : List Int) (nl : OBo) (t : Bool) (nl2 : OBo) (t2 : Bool) (ys : LLC) (hl : l.length <= 4294967296) :
   call E 143 [.c (.sl 1 nl t (ints l)), .fn 114 [.ptr 0 0 0 0]] [.box [.c (.sl 2 nl2 t2 ys)]] = some ([V.i (firstAt (noNum ys.length) l)], [.box [.c (.sl 2 nl2 t2 ys)]]) := by
 have hct : CT.ok E (ctOf [(114, s114)]) := ctOf_cons s114_ok ctOf_nil
 refine call_of (E := E) (sh := sh) (ct := ctOf [(114, s114)]) (na := 2) (m := 1) hct rfl rfl rfl rfl rfl rfl ?_
 rw [t51c]
 have hloop := loop_of (p := p51c) hct (b := b143) (fun k : Nat => ([(0, .c (.sl 1 nl t (ints l))), (1, .fn 114 [.ptr 0 0 0 0]), (7, V.i l.length), (8, V.i k)], [.box [.c (.sl 2 nl2 t2 ys)]]))
   (fun k => k <= l.length /\ ∀ j (hj : j < l.length), j < k -> noNum ys.length l[j] = false) (fun k => l.length - k)
   (fun _ => match l.findIdx? (noNum ys.length) with
     | some i => (.ret, [(4, V.i i)], [.box [.c (.sl 2 nl2 t2 ys)]])
     | none => (.exit 0, [(0, .c (.sl 1 nl t (ints l))), (1, .fn 114 [.ptr 0 0 0 0]), (7, V.i l.length), (8, V.i l.length), (9, V.b false)], [.box [.c (.sl 2 nl2 t2 ys)]]))
   (by
     rintro k ⟨hk, hq⟩
     simp only [t51c_0]
     rcases Nat.lt_or_ge k l.length with h | h
     · have hget : l.getD k 0 = l[k] := by rw [List.getD_eq_getElem?_getD, List.getElem?_eq_getElem h]; rfl
       have hw := wrap_same (n := (k : Int) + 1) (by omega) (by omega)
       simp only [ld_br, ld_chk, ints_length, Int.toNat_natCast, ints_getD h, ei_ok, ei_i, hget, hw, ld_leaf, h, Int.ofNat_lt, decide_true, Int.natCast_nonneg, if_true]
       cases hx : noNum ys.length l[k] with
       | true =>
         rw [findIdx_drop hq h hx]
         exact .inr ⟨by simp, by simp⟩
       | false =>
         refine .inl ⟨k + 1, ⟨by omega, fun j hj hjk => ?_⟩, by omega, trivial, by simp⟩
         rcases Nat.lt_or_ge j k with h' | h'
         · exact hq j hj h'
         · have : j = k := by omega
           subst this; exact hx
     · have : k = l.length := by omega
       subst this
       have : l.findIdx? (noNum ys.length) = none := by
         rw [List.findIdx?_eq_none_iff]
         intro x hx
         obtain ⟨j, hj, rfl⟩ := List.getElem_of_mem hx
         exact hq j hj hj
       rw [this]
       refine .inr ⟨by simp, ?_⟩
       simp [ld_br, ld_leaf]) 0 ⟨Nat.zero_le _, fun j hj h => by omega⟩
 rw [ints_length]
 unfold firstAt
 cases h : l.findIdx? (noNum ys.length) with
 | none =>
   simp only [h] at hloop
   exact fd_lp (p := p51c) hct (by kernel_rfl) hloop (by rw [t51c_0x1]; rfl)
 | some i =>
   simp only [h] at hloop
   exact fd_lp (p := p51c) hct (by kernel_rfl) hloop (by rw [t51c_0x0]; rfl)
theorem f51b (l : List Int) (nl : OBo) (t : Bool) (nl2 : OBo) (t2 : Bool) (r : List Cm) (c : C) (st : Int) (hr : r.length <= 500) (hn : ∀ n ∈ l, noNum r.length n = false) (hl : l.length <= 4294967296) :
   call E 143 [.c (.sl 1 nl t (ints l)), .fn 168 [.ptr 0 0 0 0, .ptr 1 0 0 0]] [.box [.c (.sl 2 nl2 t2 (repo r))], .box [.c c, V.i st]] = some ([V.i (firstAt (lateFor r st) l)], [.box [.c (.sl 2 nl2 t2 (repo r))], .box [.c c, V.i st]]) := by
 have hct : CT.ok E (ctOf [(168, s168)]) := ctOf_cons s168_ok ctOf_nil
 refine call_of (E := E) (sh := sh) (ct := ctOf [(168, s168)]) (na := 2) (m := 2) hct rfl rfl rfl rfl rfl rfl ?_
 rw [t51b]
 have hloop := loop_of (p := p51b) hct (b := b143) (fun k : Nat => ([(0, .c (.sl 1 nl t (ints l))), (1, .fn 168 [.ptr 0 0 0 0, .ptr 1 0 0 0]), (7, V.i l.length), (8, V.i k)], [.box [.c (.sl 2 nl2 t2 (repo r))], .box [.c c, V.i st]]))
   (fun k => k <= l.length /\ ∀ j (hj : j < l.length), j < k -> lateFor r st l[j] = false) (fun k => l.length - k)
   (fun _ => match l.findIdx? (lateFor r st) with
     | some i => (.ret, [(4, V.i i)], [.box [.c (.sl 2 nl2 t2 (repo r))], .box [.c c, V.i st]])
     | none => (.exit 0, [(0, .c (.sl 1 nl t (ints l))), (1, .fn 168 [.ptr 0 0 0 0, .ptr 1 0 0 0]), (7, V.i l.length), (8, V.i l.length), (9, V.b false)], [.box [.c (.sl 2 nl2 t2 (repo r))], .box [.c c, V.i st]]))
   (by
     rintro k ⟨hk, hq⟩
     simp only [t51b_0]
     rcases Nat.lt_or_ge k l.length with h | h
     · have hget : l.getD k 0 = l[k] := by rw [List.getD_eq_getElem?_getD, List.getElem?_eq_getElem h]; rfl
       have hw := wrap_same (n := (k : Int) + 1) (by omega) (by omega)
       simp only [ld_br, ld_chk, ints_length, Int.toNat_natCast, ints_getD h, ei_ok, ei_i, hget, hw, ld_leaf, h, isRepo_repo, toRepo_repo, repo_length, hn _ (List.getElem_mem h), hr, Bool.not_false, Int.ofNat_lt, decide_true, Int.natCast_nonneg, if_true]
       cases hx : lateFor r st l[k] with
       | true =>
         rw [findIdx_drop hq h hx]
         exact .inr ⟨by simp, by simp⟩
       | false =>
         refine .inl ⟨k + 1, ⟨by omega, fun j hj hjk => ?_⟩, by omega, trivial, by simp⟩
         rcases Nat.lt_or_ge j k with h' | h'
         · exact hq j hj h'
         · have : j = k := by omega
           subst this; exact hx
     · have : k = l.length := by omega
       subst this
       have : l.findIdx? (lateFor r st) = none := by
         rw [List.findIdx?_eq_none_iff]
         intro x hx
         obtain ⟨j, hj, rfl⟩ := List.getElem_of_mem hx
         exact hq j hj hj
       rw [this]
       refine .inr ⟨by simp, ?_⟩
       simp [ld_br, ld_leaf]) 0 ⟨Nat.zero_le _, fun j hj h => by omega⟩
 rw [ints_length]
 unfold firstAt
 cases h : l.findIdx? (lateFor r st) with
 | none =>
   simp only [h] at hloop
   exact fd_lp (p := p51b) hct (by kernel_rfl) hloop (by rw [t51b_0x1]; rfl)
 | some i =>
   simp only [h] at hloop
   exact fd_lp (p := p51b) hct (by kernel_rfl) hloop (by rw [t51b_0x0]; rfl)
end Go.Proofs.YtgaabjmbnomimaaDoor.Gr
namespace Go.Proofs.YtgaabjmbnomimaaDoor.Gr
open Go Go.Ev
def s143 : CSpec := fun a h => match a, h with
 | [.c (.sl 1 nl t xs), .fn 167 [.ptr 0 0 0 0]], [.box [.c (.sl 2 nl2 t2 ys)]] => some ([isInts xs, decide (xs.length <= 4294967296)], [V.i (firstAt (noNum ys.length) (toInts xs))], [.box [.c (.sl 2 nl2 t2 ys)]])
 | [.c (.sl 1 nl t xs), .fn 114 [.ptr 0 0 0 0]], [.box [.c (.sl 2 nl2 t2 ys)]] => some ([isInts xs, decide (xs.length <= 4294967296)], [V.i (firstAt (noNum ys.length) (toInts xs))], [.box [.c (.sl 2 nl2 t2 ys)]])
 | [.c (.sl 1 nl t xs), .fn 168 [.ptr 0 0 0 0, .ptr 1 0 0 0]], [.box [.c (.sl 2 nl2 t2 ys)], .box [.c c, .c (.int .i64 st)]] =>
   some ([isInts xs, decide (xs.length <= 4294967296), isRepo ys, decide (ys.length <= 500), (toInts xs).all fun n => !noNum ys.length n], [V.i (firstAt (lateFor (toRepo ys) st) (toInts xs))], [.box [.c (.sl 2 nl2 t2 ys)], .box [.c c, .c (.int .i64 st)]])
 | _, _ => none
noncomputable abbrev p46a : Par := par E sh (ctOf [(143, s143)]) 106 2 1
noncomputable abbrev p46b : Par := par E sh (ctOf [(143, s143)]) 106 2 2
theorem t46a (nl : OBo) (t : Bool) (xs : LLC) (nl2 : OBo) (t2 : Bool) (ys : LLC) : p46a.ft [V.c (C.sl 1 nl t xs), V.fn 167 [V.ptr 0 0 0 0]] [O.box [V.c (C.sl 2 nl2 t2 ys)]] = Tr.chk (isInts xs) (Tr.chk (decide (xs.length <= 4294967296)) (Tr.leaf (R.out [V.c (C.bool (decide (0 <= firstAt (noNum ys.length) (toInts xs))))] [O.box [V.c (C.sl 2 nl2 t2 ys)]]))) := by kernel_rfl
theorem t46c (nl : OBo) (t : Bool) (xs : LLC) (nl2 : OBo) (t2 : Bool) (ys : LLC) : p46a.ft [V.c (C.sl 1 nl t xs), V.fn 114 [V.ptr 0 0 0 0]] [O.box [V.c (C.sl 2 nl2 t2 ys)]] = Tr.chk (isInts xs) (Tr.chk (decide (xs.length <= 4294967296)) (Tr.leaf (R.out [V.c (C.bool (decide (0 <= firstAt (noNum ys.length) (toInts xs))))] [O.box [V.c (C.sl 2 nl2 t2 ys)]]))) := by kernel_rfl
theorem t46b (nl : OBo) (t : Bool) (xs : LLC) (nl2 : OBo) (t2 : Bool) (ys : LLC) (c : C) (st : Int) : p46b.ft [V.c (C.sl 1 nl t xs), V.fn 168 [V.ptr 0 0 0 0, V.ptr 1 0 0 0]] [O.box [V.c (C.sl 2 nl2 t2 ys)], O.box [V.c c, V.i st]] = Tr.chk (isInts xs) (Tr.chk (decide (xs.length <= 4294967296)) (Tr.chk (isRepo ys) (Tr.chk (decide (ys.length <= 500)) (Tr.chk ((toInts xs).all fun (n : Int) => !noNum ys.length n) (Tr.leaf (R.out [V.c (C.bool (decide (0 <= firstAt (lateFor (toRepo ys) st) (toInts xs))))] [O.box [V.c (C.sl 2 nl2 t2 ys)], O.box [V.c c, V.c (C.int IntKind.i64 st)]])))))) := by kernel_rfl
end Go.Proofs.YtgaabjmbnomimaaDoor.Gr
namespace Go.Proofs.YtgaabjmbnomimaaDoor.Gr
open Go Go.Ev
theorem toRepo_length (xs : LLC) : (toRepo xs).length = xs.length := by simp [toRepo]
theorem s143_ok : CSpecOk E 143 s143 := by
 intro a h cs vals h' he hc
 unfold s143 at he
 split at he <;> simp only [Option.some.injEq, Prod.mk.injEq, reduceCtorEq] at he <;> obtain ⟨rfl, rfl, rfl⟩ := he <;> simp only [allT, Bool.and_eq_true, decide_eq_true_eq, and_true] at hc
 · rename_i nl t xs nl2 t2 ys
   have := f51a (toInts xs) nl t nl2 t2 ys (by rw [toInts_length]; exact hc.2)
   rwa [<- ints_of hc.1] at this
 · rename_i nl t xs nl2 t2 ys
   have := f51c (toInts xs) nl t nl2 t2 ys (by rw [toInts_length]; exact hc.2)
   rwa [<- ints_of hc.1] at this
 · rename_i nl t xs nl2 t2 ys c st
   obtain ⟨h1, h2, h3, h4, h5⟩ := hc
   have := f51b (toInts xs) nl t nl2 t2 (toRepo ys) c st (by rw [toRepo_length]; exact h4) (fun n hn => by
     rw [List.all_eq_true] at h5
     rw [toRepo_length]
     simpa using h5 n hn) (by rw [toInts_length]; exact h2)
   rwa [<- ints_of h1, <- repo_of h3] at this
theorem firstAt_any (Q : Int -> Bool) (l : List Int) : decide (0 <= firstAt Q l) = l.any Q := by
 unfold firstAt
 cases h : l.findIdx? Q with
 | none =>
   rw [List.findIdx?_eq_none_iff] at h
   rw [show l.any Q = false by rw [List.any_eq_false]; intro x hx; simp [h x hx]]
   simp
 | some i =>
   obtain ⟨hi, hq, _⟩ := List.findIdx?_eq_some_iff_getElem.1 h
   rw [show l.any Q = true by rw [List.any_eq_true]; exact ⟨_, List.getElem_mem hi, hq⟩]
   simp
theorem f46a (l : List Int) (nl : OBo) (t : Bool) (nl2 : OBo) (t2 : Bool) (ys : LLC) (hl : l.length <= 4294967296) :
   call E 106 [.c (.sl 1 nl t (ints l)), .fn 167 [.ptr 0 0 0 0]] [.box [.c (.sl 2 nl2 t2 ys)]] = some ([V.b (l.any (noNum ys.length))], [.box [.c (.sl 2 nl2 t2 ys)]]) := by
 refine call_of (E := E) (sh := sh) (ct := ctOf [(143, s143)]) (na := 2) (m := 1) (ctOf_cons s143_ok ctOf_nil) rfl rfl rfl rfl rfl rfl ?_
 rw [t46a, fd_chk (isInts_ints _), fd_chk (by simpa using hl), fd_leaf, toInts_ints, firstAt_any]
theorem f46c (l : List Int) (nl : OBo) (t : Bool) (nl2 : OBo) (t2 : Bool) (ys : LLC) (hl : l.length <= 4294967296) :
   call E 106 [.c (.sl 1 nl t (ints l)), .fn 114 [.ptr 0 0 0 0]] [.box [.c (.sl 2 nl2 t2 ys)]] = some ([V.b (l.any (noNum ys.length))], [.box [.c (.sl 2 nl2 t2 ys)]]) := by
 refine call_of (E := E) (sh := sh) (ct := ctOf [(143, s143)]) (na := 2) (m := 1) (ctOf_cons s143_ok ctOf_nil) rfl rfl rfl rfl rfl rfl ?_
 rw [t46c, fd_chk (isInts_ints _), fd_chk (by simpa using hl), fd_leaf, toInts_ints, firstAt_any]
theorem f46b (l : List Int) (nl : OBo) (t : Bool) (nl2 : OBo) (t2 : Bool) (r : List Cm) (c : C) (st : Int) (hr : r.length <= 500) (hn : (l.all fun n => !noNum r.length n) = true) (hl : l.length <= 4294967296) :
   call E 106 [.c (.sl 1 nl t (ints l)), .fn 168 [.ptr 0 0 0 0, .ptr 1 0 0 0]] [.box [.c (.sl 2 nl2 t2 (repo r))], .box [.c c, V.i st]] = some ([V.b (l.any (lateFor r st))], [.box [.c (.sl 2 nl2 t2 (repo r))], .box [.c c, V.i st]]) := by
 refine call_of (E := E) (sh := sh) (ct := ctOf [(143, s143)]) (na := 2) (m := 2) (ctOf_cons s143_ok ctOf_nil) rfl rfl rfl rfl rfl rfl ?_
 rw [t46b, fd_chk (isInts_ints _), fd_chk (by simpa using hl), fd_chk (isRepo_repo _), fd_chk (by simpa using hr), toInts_ints, repo_length, fd_chk hn, fd_leaf, toRepo_repo, firstAt_any]
end Go.Proofs.YtgaabjmbnomimaaDoor.Gr
namespace Go.Proofs.YtgaabjmbnomimaaDoor.Gr
open Go Go.Ev
def s106 : CSpec := fun a h => match a, h with
 | [.c (.sl 1 _ _ xs), .fn 167 [.ptr 0 0 0 0]], [.box [.c (.sl 2 nl2 t2 ys)]] => some ([isInts xs, decide (xs.length <= 4294967296)], [V.b ((toInts xs).any (noNum ys.length))], [.box [.c (.sl 2 nl2 t2 ys)]])
 | [.c (.sl 1 _ _ xs), .fn 114 [.ptr 0 0 0 0]], [.box [.c (.sl 2 nl2 t2 ys)]] => some ([isInts xs, decide (xs.length <= 4294967296)], [V.b ((toInts xs).any (noNum ys.length))], [.box [.c (.sl 2 nl2 t2 ys)]])
 | [.c (.sl 1 _ _ xs), .fn 168 [.ptr 0 0 0 0, .ptr 1 0 0 0]], [.box [.c (.sl 2 nl2 t2 ys)], .box [.c c, .c (.int .i64 st)]] =>
   some ([isInts xs, decide (xs.length <= 4294967296), isRepo ys, decide (ys.length <= 500), (toInts xs).all fun n => !noNum ys.length n], [V.b ((toInts xs).any (lateFor (toRepo ys) st))], [.box [.c (.sl 2 nl2 t2 ys)], .box [.c c, .c (.int .i64 st)]])
 | _, _ => none
noncomputable abbrev p141 : Par := par E sh (ctOf [(106, s106)]) 141 2 0
theorem t141 (nl : OBo) (t : Bool) (xs : LLC) (nl2 : OBo) (t2 : Bool) (ps : LLC) (st : Int) : p141.ft [V.c (C.sl 2 nl t xs), V.agg [V.c (C.sl 1 nl2 t2 ps), V.i st]] [] = Tr.br (decide (st < 0)) (Tr.leaf (R.out [V.c (C.int IntKind.i64 2)] [])) (Tr.br (decide (1099511627776 < st)) (Tr.leaf (R.out [V.c (C.int IntKind.i64 2)] [])) (Tr.br (decide (2 < (↑ps.length : Int))) (Tr.leaf (R.out [V.c (C.int IntKind.i64 2)] [])) (Tr.br ((↑ps.length : Int) == 2) (Tr.chk true (Tr.chk true (Tr.chk (decide (Int.toNat 0 < ps.length)) (Tr.chk (shOk [Sk.int IntKind.i64] (ps.getD (Int.toNat 0) [])) (Tr.chk true (Tr.chk true (Tr.chk (decide (Int.toNat 1 < ps.length)) (Tr.chk (shOk [Sk.int IntKind.i64] (ps.getD (Int.toNat 1) [])) (Tr.br (((ps.getD (Int.toNat 0) []).headD C.pnil).i == ((ps.getD (Int.toNat 1) []).headD C.pnil).i) (Tr.leaf (R.out [V.c (C.int IntKind.i64 2)] [])) (Tr.chk (isInts ps) (Tr.chk (decide (ps.length <= 4294967296)) (Tr.br ((toInts ps).any (noNum xs.length)) (Tr.leaf (R.out [V.c (C.int IntKind.i64 17)] [])) (Tr.chk (isInts ps) (Tr.chk (decide (ps.length <= 4294967296)) (Tr.chk (isRepo xs) (Tr.chk (decide (xs.length <= 500)) (Tr.chk ((toInts ps).all fun (n : Int) => !noNum xs.length n) (Tr.br ((toInts ps).any (lateFor (toRepo xs) st)) (Tr.leaf (R.out [V.c (C.int IntKind.i64 14)] [])) (Tr.leaf (R.out [V.c (C.int IntKind.i64 0)] [])))))))))))))))))))) (Tr.chk (isInts ps) (Tr.chk (decide (ps.length <= 4294967296)) (Tr.br ((toInts ps).any (noNum xs.length)) (Tr.leaf (R.out [V.c (C.int IntKind.i64 17)] [])) (Tr.chk (isInts ps) (Tr.chk (decide (ps.length <= 4294967296)) (Tr.chk (isRepo xs) (Tr.chk (decide (xs.length <= 500)) (Tr.chk ((toInts ps).all fun (n : Int) => !noNum xs.length n) (Tr.br ((toInts ps).any (lateFor (toRepo xs) st)) (Tr.leaf (R.out [V.c (C.int IntKind.i64 14)] [])) (Tr.leaf (R.out [V.c (C.int IntKind.i64 0)] [])))))))))))))) := by kernel_rfl
end Go.Proofs.YtgaabjmbnomimaaDoor.Gr
namespace Go.Proofs.YtgaabjmbnomimaaDoor.Gr
open Go Go.Ev
theorem s106_ok : CSpecOk E 106 s106 := by
 intro a h cs vals h' he hc
 unfold s106 at he
 split at he <;> simp only [Option.some.injEq, Prod.mk.injEq, reduceCtorEq] at he <;> obtain ⟨rfl, rfl, rfl⟩ := he <;> simp only [allT, Bool.and_eq_true, decide_eq_true_eq, and_true] at hc
 · rename_i nl t xs nl2 t2 ys
   have := f46a (toInts xs) nl t nl2 t2 ys (by rw [toInts_length]; exact hc.2)
   rwa [<- ints_of hc.1] at this
 · rename_i nl t xs nl2 t2 ys
   have := f46c (toInts xs) nl t nl2 t2 ys (by rw [toInts_length]; exact hc.2)
   rwa [<- ints_of hc.1] at this
 · rename_i nl t xs nl2 t2 ys c st
   obtain ⟨h1, h2, h3, h4, h5⟩ := hc
   have := f46b (toInts xs) nl t nl2 t2 (toRepo ys) c st (by rw [toRepo_length]; exact h4) (by rw [toRepo_length]; exact h5) (by rw [toInts_length]; exact h2)
   rwa [<- ints_of h1, <- repo_of h3] at this
theorem f141 (l : List Cm) (nl : OBo) (t : Bool) (nl2 : OBo) (t2 : Bool) (c : Cm) (hl : l.length <= 500) (hc : c.1.length <= 4294967296) :
   call E 141 [.c (.sl 2 nl t (repo l)), .agg [.c (.sl 1 nl2 t2 (ints c.1)), V.i c.2]] [] = some ([V.i (faultG l c)], []) := by
 obtain ⟨ps, st⟩ := c
 refine call_of (E := E) (sh := sh) (ct := ctOf [(106, s106)]) (na := 2) (m := 0) (ctOf_cons s106_ok ctOf_nil) rfl rfl rfl rfl rfl rfl ?_
 simp only at hc ⊢
 rw [t141]
 have rest : ∀ {x : Option R}, (if (ps.any (noNum l.length)) = true then some (R.out [V.c (C.int .i64 17)] []) else x) = some (R.out [V.i (if (ps.any (noNum l.length)) = true then 17 else if (ps.any (lateFor l st)) = true then 14 else 0)] []) ↔ ((ps.any (noNum l.length)) = false -> x = some (R.out [V.i (if (ps.any (lateFor l st)) = true then 14 else 0)] [])) := by
   intro x
   cases ps.any (noNum l.length) <;> simp
 have hall : ∀ (_ : ps.any (noNum l.length) = false), (ps.all fun n => !noNum l.length n) = true := by
   intro h
   rw [List.any_eq_false] at h
   rw [List.all_eq_true]
   intro x hx
   simpa using h x hx
 simp only [fd_br, fd_leaf, ints_length, repo_length, decide_eq_true_eq, beq_iff_eq, toInts_ints, toRepo_repo]
 unfold faultG
 simp only
 by_cases h1 : st < 0
 · simp [h1]
 rw [if_neg h1]
 by_cases h2 : 1099511627776 < st
 · simp [h2]
 rw [if_neg h2]
 by_cases h3 : 2 < ps.length
 · rw [if_pos (by omega), if_pos (by simp [h3])]
 rw [if_neg (by omega)]
 have tail : ∀ {x : Option R}, (ps.any (noNum l.length) = false -> x = (if (ps.any (lateFor l st)) = true then some (R.out [V.c (C.int .i64 14)] []) else some (R.out [V.c (C.int .i64 0)] []))) →
     (if (ps.any (noNum l.length)) = true then some (R.out [V.c (C.int .i64 17)] []) else x) = some (R.out [V.i (if (ps.any (noNum l.length)) = true then 17 else if (ps.any (lateFor l st)) = true then 14 else 0)] []) := by
   intro x hx
   rw [rest]
   intro h
   rw [hx h]
   split <;> rfl
 by_cases h4 : ps.length = 2
 · rw [if_pos (by omega)]
   match ps, h4 with
   | [a, b], _ =>
     rw [fd_chk (by rfl), fd_chk (by rfl), fd_chk (by rfl), fd_chk (by rfl), fd_chk (by rfl), fd_chk (by rfl), fd_chk (by rfl), fd_chk (by rfl), fd_br]
     by_cases h5 : a = b
     · subst h5
       rw [if_pos (by simp [ints, ei, C.i]), if_pos (by simp)]
       rfl
     · rw [if_neg (by simpa [ints, ei, C.i] using h5), if_neg (by simp [h1, h2, h5])]
       rw [fd_chk (isInts_ints _), fd_chk (by simp), fd_br]
       refine tail fun h => ?_
       rw [fd_chk (isInts_ints _), fd_chk (by simp), fd_chk (isRepo_repo _), fd_chk (by simpa using hl), fd_chk (hall h), fd_br]
       rfl
 · rw [if_neg (by omega), if_neg (by simp [h1, h2, h3, h4])]
   rw [fd_chk (isInts_ints _), fd_chk (by simpa using hc), fd_br]
   refine tail fun h => ?_
   rw [fd_chk (isInts_ints _), fd_chk (by simpa using hc), fd_chk (isRepo_repo _), fd_chk (by simpa using hl), fd_chk (hall h), fd_br]
   rfl
end Go.Proofs.YtgaabjmbnomimaaDoor.Gr
namespace Go.Proofs.YtgaabjmbnomimaaDoor.Gr
open Go Go.Ev
def s141 : CSpec := fun a h => match a, h with
 | [.c (.sl 2 _ _ xs), .agg [.c (.sl 1 _ _ ps), .c (.int .i64 st)]], [] => some ([isRepo xs, decide (xs.length <= 500), isInts ps, decide (ps.length <= 4294967296)], [V.i (faultG (toRepo xs) (toInts ps, st))], [])
 | _, _ => none
noncomputable abbrev p103 : Par := par E sh (ctOf [(141, s141)]) 103 1 0
abbrev s103_0 (nl : OBo) (t : Bool) (xs : LLC) (i11 : Int) (i12 : Int) : Fr × Hp := ([(0, V.c (C.sl 2 nl t xs)), (10, V.c (C.sl 2 nl t xs)), (11, V.c (C.int IntKind.i64 i11)), (12, V.c (C.int IntKind.i64 i12))], [])
noncomputable abbrev b103_0 : Code := loopAt (codeOf p103.E p103.g) 0
abbrev x103_0x0 (i2 : Int) (i3 : Int) (nlh0 : OBo) (xsh0 : LLC) (ih0 : Int) : Ex × Fr × Hp := (Ex.ret, [(2, V.c (C.int IntKind.i64 i2)), (3, V.c (C.int IntKind.i64 i3))], [O.box [V.c (C.sl 1 nlh0 false xsh0), V.c (C.int IntKind.i64 ih0)]])
abbrev x103_0x1 (nl : OBo) (t : Bool) (xs : LLC) (i11 : Int) (i12 : Int) : Ex × Fr × Hp := (Ex.exit 0, [(0, V.c (C.sl 2 nl t xs)), (10, V.c (C.sl 2 nl t xs)), (11, V.c (C.int IntKind.i64 i11)), (12, V.c (C.int IntKind.i64 i12)), (13, V.c (C.bool false))], [])
theorem t103_0 (nl : OBo) (t : Bool) (xs : LLC) (i11 : Int) (i12 : Int) : p103.lts b103_0 (s103_0 nl t xs i11 i12) = (Tr.br (decide (i12 < i11)) (Tr.chk (decide (0 <= i12)) (Tr.chk true (Tr.chk (decide (i12.toNat < xs.length)) (Tr.chk (shOk [Sk.sl 1, Sk.int IntKind.i64] (xs.getD i12.toNat [])) (Tr.chk (decide (0 <= i12)) (Tr.chk true (Tr.chk (decide (i12.toNat <= xs.length)) (Tr.chk true (Tr.chk (isRepo (List.take i12.toNat xs)) (Tr.chk (decide ((List.take i12.toNat xs).length <= 500)) (Tr.chk (isInts ((xs.getD i12.toNat []).headD C.pnil).xs) (Tr.chk (decide (((xs.getD i12.toNat []).headD C.pnil).xs.length <= 4294967296)) (Tr.br (faultG (toRepo (List.take i12.toNat xs)) (toInts ((xs.getD i12.toNat []).headD C.pnil).xs, ((xs.getD i12.toNat []).tail.headD C.pnil).i) != 0) (Tr.leaf (R.x (x103_0x0 (IntKind.i64.wrap (i12 + 1)) (faultG (toRepo (List.take i12.toNat xs)) (toInts ((xs.getD i12.toNat []).headD C.pnil).xs, ((xs.getD i12.toNat []).tail.headD C.pnil).i)) (none) (((xs.getD i12.toNat []).headD C.pnil).xs) (((xs.getD i12.toNat []).tail.headD C.pnil).i)))) (Tr.leaf (R.s (s103_0 nl t xs i11 (IntKind.i64.wrap (i12 + 1)))))))))))))))))) (Tr.leaf (R.x (x103_0x1 nl t xs i11 i12)))) := by kernel_rfl
theorem k103_0x0 (i2 : Int) (i3 : Int) (nlh0 : OBo) (xsh0 : LLC) (ih0 : Int) : p103.fkx 0 (x103_0x0 i2 i3 nlh0 xsh0 ih0) = (Tr.leaf (R.out [V.c (C.int IntKind.i64 i2), V.c (C.int IntKind.i64 i3)] [])) := by kernel_rfl
theorem k103_0x1 (nl : OBo) (t : Bool) (xs : LLC) (i11 : Int) (i12 : Int) : p103.fkx 0 (x103_0x1 nl t xs i11 i12) = (Tr.leaf (R.out [V.c (C.int IntKind.i64 (↑xs.length : Int)), V.c (C.int IntKind.i64 0)] [])) := by kernel_rfl
theorem t103 (nl : OBo) (t : Bool) (xs : LLC) : p103.ft ([V.c (C.sl 2 nl t xs)]) ([]) = (Tr.br (decide (500 < (↑xs.length : Int))) (Tr.leaf (R.out [V.c (C.int IntKind.i64 500), V.c (C.int IntKind.i64 5)] [])) (Tr.ls 0 (s103_0 nl t xs ((↑xs.length : Int)) (0)))) := by kernel_rfl
end Go.Proofs.YtgaabjmbnomimaaDoor.Gr
namespace Go.Proofs.YtgaabjmbnomimaaDoor.Gr
open Go Go.Ev
theorem getD_of {α : Type} {l : List α} {k : Nat} {x d : α} (h : l[k]? = some x) : l.getD k d = x := by rw [List.getD_eq_getElem?_getD, h]; rfl
theorem repo_at {l : List Cm} {k : Nat} {x : Cm} (h : l[k]? = some x) : (repo l).getD k [] = ec x := by
 rw [List.getD_eq_getElem?_getD]; simp [repo, h]
theorem ints_at {l : List Int} {k : Nat} {x : Int} (h : l[k]? = some x) : (ints l).getD k [] = ei x := by
 rw [List.getD_eq_getElem?_getD]; simp [ints, h]
theorem s141_ok : CSpecOk E 141 s141 := by
 intro a h cs vals h' he hc
 unfold s141 at he
 split at he <;> simp only [Option.some.injEq, Prod.mk.injEq, reduceCtorEq] at he
 obtain ⟨rfl, rfl, rfl⟩ := he
 simp only [allT, Bool.and_eq_true, decide_eq_true_eq, and_true] at hc
 obtain ⟨h1, h2, h3, h4⟩ := hc
 rename_i nl t xs nl2 t2 ps st
 have := f141 (toRepo xs) nl t nl2 t2 (toInts ps, st) (by rw [toRepo_length]; exact h2) (by rw [toInts_length]; exact h4)
 rwa [<- repo_of h1, <- ints_of h3] at this
def Small (l : List Cm) : Prop := ∀ c ∈ l, c.1.length <= 4294967296
theorem f103 (l : List Cm) (nl : OBo) (t : Bool) (hs : Small l) : call E 103 [.c (.sl 2 nl t (repo l))] [] = some ([V.i (checkG l).1, V.i (checkG l).2], []) := by
 have hct : CT.ok E (ctOf [(141, s141)]) := ctOf_cons s141_ok ctOf_nil
 refine call_of (E := E) (sh := sh) (ct := ctOf [(141, s141)]) (na := 1) (m := 0) hct rfl rfl rfl rfl rfl rfl ?_
 rw [t103, fd_br]
 by_cases h : 500 < l.length
 · rw [if_pos (by simp only [repo_length, decide_eq_true_eq]; omega), fd_leaf]
   simp [checkG, h]
 · rw [if_neg (by simp only [repo_length, decide_eq_true_eq]; omega)]
   have hloop := loop_list (p := p103) hct (b := b103_0) l (fun k (_ : Unit) => s103_0 nl t (repo l) l.length k) (fun _ _ => True)
     (fun r _ => if (checkFrom l r.length (l.length - r.length)).2 = 0 then x103_0x1 nl t (repo l) l.length l.length
       else x103_0x0 (checkFrom l r.length (l.length - r.length)).1 (checkFrom l r.length (l.length - r.length)).2 none (ints (l.getD ((checkFrom l r.length (l.length - r.length)).1 - 1).toNat ([], 0)).1) (l.getD ((checkFrom l r.length (l.length - r.length)).1 - 1).toNat ([], 0)).2)
     (by
       intro k _ c hc hk _
       have hw := wrap_same (n := (k : Int) + 1) (by omega) (by omega)
       have hmem : c ∈ l := List.mem_of_getElem? hc
       have e1 : (c :: l.drop (k + 1)).length = (l.length - (k + 1)) + 1 := by simp
       have e2 : l.length - (l.length - (k + 1) + 1) = k := by omega
       have e3 : (l.drop (k + 1)).length = l.length - (k + 1) := by simp
       have e4 : l.length - (l.length - (k + 1)) = k + 1 := by omega
       rw [e1, e2, e3, e4]
       simp only [t103_0, ld_br, ld_chk', ld_leaf, repo_length, repo_at hc, Int.toNat_natCast, hk, ec_ok, ec_par, ec_stamp, ints_length, hw, Int.ofNat_lt, decide_true, Int.natCast_nonneg, if_true, Nat.le_of_lt hk, repo_take, isRepo_repo, isInts_ints, toRepo_repo, toInts_ints, checkFrom, getD_of hc, hs c hmem, List.length_take, show min k l.length <= 500 by omega]
       by_cases hf : faultG (l.take k) c = 0
       · exact .inl ⟨(), trivial, by rw [if_pos hf], by rw [if_neg (by simp [hf])]; rfl⟩
       · rw [if_neg hf]
         simp only [if_neg hf]
         refine .inr ⟨by simp, ?_⟩
         rw [if_pos (by simpa using hf)]
         simp [hc])
     (by
       intro _ _
       simp [t103_0, ld_br, ld_leaf, checkFrom]) () trivial
   rw [Nat.sub_self] at hloop
   unfold checkG
   rw [if_neg h]
   rw [repo_length]
   by_cases hz' : (checkFrom l l.length 0).2 = 0
   case neg =>
     rw [if_neg hz'] at hloop
     exact fd_ls (p := p103) hct (by kernel_rfl) hloop (by rw [k103_0x0, fd_leaf]) rfl
   · rw [if_pos hz'] at hloop
     refine fd_ls (p := p103) hct (by kernel_rfl) hloop ?_ rfl
     rw [k103_0x1, fd_leaf]
     have : ∀ n i, (checkFrom l n i).2 = 0 -> (checkFrom l n i).1 = l.length := by
       intro n
       induction n with
       | zero => intro i _; rfl
       | succ n ih =>
         intro i
         simp only [checkFrom]
         split
         · exact ih _
         · intro hh; simp only at hh; contradiction
     rw [this _ _ hz', hz', repo_length]
end Go.Proofs.YtgaabjmbnomimaaDoor.Gr
namespace Go.Proofs.YtgaabjmbnomimaaDoor.Gr
open Go Go.Ev
noncomputable abbrev p59 : Par := par E sh (ctOf [(103, s103), (106, s106)]) 59 2 0
theorem t59 (nl : OBo) (t : Bool) (xs : LLC) (nl2 : OBo) (t2 : Bool) (ys : LLC) : p59.ft ([V.c (C.sl 2 nl t xs), V.c (C.sl 1 nl2 t2 ys)]) ([]) = (Tr.chk (isRepo xs) (Tr.chk (smallB (toRepo xs)) (Tr.br ((checkG (toRepo xs)).snd != 0) (Tr.leaf (R.out [V.c (C.bool false)] [])) (Tr.chk (isInts ys) (Tr.chk (decide (ys.length <= 4294967296)) (Tr.leaf (R.out [V.c (C.bool !(toInts ys).any (noNum xs.length))] []))))))) := by kernel_rfl
noncomputable abbrev p112 : Par := par E sh (ctOf [(59, s59)]) 112 2 0
abbrev s112_0 (nl : OBo) (t : Bool) (xs : LLC) (n5 : Nat) (nl6 : OBo) (t9006 : Bool) (xs6 : LLC) (ys0 : LLC) : Fr × Hp := ([(0, V.c (C.sl 2 nl t xs)), (5, V.buf 0 0 0 n5), (6, V.c (C.sl 1 nl6 t9006 xs6))], [O.mem 1 0 ys0])
noncomputable abbrev b112_0 : Code := loopAt (codeOf p112.E p112.g) 0
abbrev x112_0x0 (nl : OBo) (t : Bool) (xs : LLC) (n5 : Nat) (nl6 : OBo) (t9006 : Bool) (xs6 : LLC) (ys0 : LLC) : Ex × Fr × Hp := (Ex.exit 0, [(0, V.c (C.sl 2 nl t xs)), (5, V.buf 0 0 0 n5), (6, V.c (C.sl 1 nl6 t9006 xs6)), (22, V.c (C.bool false))], [O.mem 1 0 ys0])
theorem t112_0 (nl : OBo) (t : Bool) (xs : LLC) (n5 : Nat) (nl6 : OBo) (t9006 : Bool) (xs6 : LLC) (ys0 : LLC) : p112.lts b112_0 (s112_0 nl t xs n5 nl6 t9006 xs6 ys0) = (Tr.br (decide (0 < (↑xs6.length : Int))) (Tr.chk true (Tr.chk true (Tr.chk (decide (Int.toNat 0 < xs6.length)) (Tr.chk (shOk [Sk.int IntKind.i64] (xs6.getD (Int.toNat 0) [])) (Tr.chk true (Tr.chk true (Tr.chk (decide (n5 + 1 < 4294967296)) (Tr.chk true (Tr.chk true (Tr.chk true (Tr.chk (decide (Int.toNat 0 < xs6.length)) (Tr.chk (shOk [Sk.int IntKind.i64] (xs6.getD (Int.toNat 0) [])) (Tr.chk (decide (0 <= IntKind.i64.wrap (((xs6.getD (Int.toNat 0) []).headD C.pnil).i - 1))) (Tr.chk true (Tr.chk (decide ((IntKind.i64.wrap (((xs6.getD (Int.toNat 0) []).headD C.pnil).i - 1)).toNat < xs.length)) (Tr.chk (shOk [Sk.sl 1, Sk.int IntKind.i64] (xs.getD (IntKind.i64.wrap (((xs6.getD (Int.toNat 0) []).headD C.pnil).i - 1)).toNat [])) (Tr.leaf (R.s (s112_0 nl t xs (n5 + 1) (none) false (((xs.getD (IntKind.i64.wrap (((xs6.getD (Int.toNat 0) []).headD C.pnil).i - 1)).toNat []).headD C.pnil).xs) (List.take n5 ys0 ++ [[(Sk.int IntKind.i64).mk ((xs6.getD (Int.toNat 0) []).headD C.pnil)]])))))))))))))))))))) (Tr.leaf (R.x (x112_0x0 nl t xs n5 nl6 t9006 xs6 ys0)))) := by kernel_rfl
theorem k112_0x0 (nl : OBo) (t : Bool) (xs : LLC) (n5 : Nat) (nl6 : OBo) (t9006 : Bool) (xs6 : LLC) (ys0 : LLC) : p112.fkx 0 (x112_0x0 nl t xs n5 nl6 t9006 xs6 ys0) = (Tr.leaf (R.out [V.c (C.sl 1 none false (List.take n5 ys0))] [])) := by kernel_rfl
theorem t112 (nl : OBo) (t : Bool) (xs : LLC) (n : Int) : p112.ft ([V.c (C.sl 2 nl t xs), V.i n]) ([]) = (Tr.chk (isRepo xs) (Tr.chk (smallB (toRepo xs)) (Tr.chk true (Tr.chk true (Tr.br (!hasG (toRepo xs) (toInts [[C.int IntKind.i64 n]])) (Tr.leaf (R.out [V.c (C.sl 1 none false [])] [])) (Tr.chk (decide (0 <= IntKind.i64.wrap (n - 1))) (Tr.chk true (Tr.chk (decide ((IntKind.i64.wrap (n - 1)).toNat < xs.length)) (Tr.chk (shOk [Sk.sl 1, Sk.int IntKind.i64] (xs.getD (IntKind.i64.wrap (n - 1)).toNat [])) (Tr.ls 0 (s112_0 nl t xs (1) (none) false (((xs.getD (IntKind.i64.wrap (n - 1)).toNat []).headD C.pnil).xs) ([[C.int IntKind.i64 n]])))))))))))) := by kernel_rfl
end Go.Proofs.YtgaabjmbnomimaaDoor.Gr
namespace Go.Proofs.YtgaabjmbnomimaaDoor.Gr
open Go Go.Ev
theorem small_of {l : List Cm} (h : smallB l = true) : Small l := by
 intro c hc
 simp only [smallB, List.all_eq_true, decide_eq_true_eq] at h
 exact h c hc
theorem s103_ok : CSpecOk E 103 s103 := by
 intro a h cs vals h' he hc
 unfold s103 at he
 split at he <;> simp only [Option.some.injEq, Prod.mk.injEq, reduceCtorEq] at he
 obtain ⟨rfl, rfl, rfl⟩ := he
 simp only [allT, Bool.and_eq_true, and_true] at hc
 rename_i nl t xs
 have := f103 (toRepo xs) nl t (small_of hc.2)
 rwa [<- repo_of hc.1] at this
theorem f59 (l : List Cm) (nl : OBo) (t : Bool) (some' : List Int) (nl2 : OBo) (t2 : Bool) (hs : smallB l = true) (hl : some'.length <= 4294967296) :
   call E 59 [.c (.sl 2 nl t (repo l)), .c (.sl 1 nl2 t2 (ints some'))] [] = some ([V.b (hasG l some')], []) := by
 refine call_of (E := E) (sh := sh) (ct := ctOf [(103, s103), (106, s106)]) (na := 2) (m := 0) (ctOf_cons s103_ok (ctOf_cons s106_ok ctOf_nil)) rfl rfl rfl rfl rfl rfl ?_
 simp only [t59, fd_br, fd_chk', fd_leaf, decide_true, if_true, bne_iff_ne, ne_eq, repo_length, ints_length, isRepo_repo, isInts_ints, toRepo_repo, toInts_ints, hs, hl, hasG, right]
 by_cases h : (checkG l).2 = 0 <;> simp [h]
theorem s59_ok : CSpecOk E 59 s59 := by
 intro a h cs vals h' he hc
 unfold s59 at he
 split at he <;> simp only [Option.some.injEq, Prod.mk.injEq, reduceCtorEq] at he
 obtain ⟨rfl, rfl, rfl⟩ := he
 simp only [allT, Bool.and_eq_true, and_true, decide_eq_true_eq] at hc
 rename_i nl t xs nl2 t2 ys
 have := f59 (toRepo xs) nl t (toInts ys) nl2 t2 hc.2.1 (by rw [toInts_length]; exact hc.2.2.2)
 rwa [<- repo_of hc.1, <- ints_of hc.2.2.1] at this
theorem checkFrom_ok {l : List Cm} : ∀ {k i : Nat}, k + i = l.length -> (checkFrom l k i).2 = 0 -> ∀ j, i <= j -> j < l.length -> faultG (l.take j) (l.getD j ([], 0)) = 0
 | 0, i, h, _, j, h1, h2 => by omega
 | k + 1, i, h, hz, j, h1, h2 => by
   simp only [checkFrom] at hz
   by_cases hf : faultG (l.take i) (l.getD i ([], 0)) = 0
   · rw [if_pos hf] at hz
     rcases Nat.lt_or_ge i j with hij | hij
     · exact checkFrom_ok (by omega) hz j (by omega) h2
     · obtain rfl : i = j := by omega
       exact hf
   · rw [if_neg hf] at hz
     exact absurd hz hf
theorem right_len {l : List Cm} (h : right l = true) : l.length <= 500 := by
 simp only [right, beq_iff_eq, checkG] at h
 split at h
 · simp at h
 · omega
theorem right_fault {l : List Cm} (h : right l = true) {j : Nat} (hj : j < l.length) : faultG (l.take j) (l.getD j ([], 0)) = 0 := by
 have hl := right_len h
 simp only [right, beq_iff_eq, checkG] at h
 rw [if_neg (by omega)] at h
 exact checkFrom_ok (by omega) h j (by omega) hj
theorem fault_zero {l : List Cm} {c : Cm} (h : faultG l c = 0) : 0 <= c.2 /\ c.2 <= 1099511627776 /\ c.1.length <= 2 /\ (∀ p ∈ c.1, 1 <= p /\ p <= l.length) /\ (∀ p ∈ c.1, (l.getD (p - 1).toNat ([], 0)).2 < c.2) := by
 unfold faultG at h
 split at h
 · simp at h
 · rename_i h1
   split at h
   · simp at h
   · rename_i h2
     split at h
     · simp at h
     · rename_i h3
       simp only [not_or] at h1
       refine ⟨by omega, by omega, by omega, fun p hp => ?_, fun p hp => ?_⟩
       · simp only [Bool.not_eq_true, List.any_eq_false] at h2
         have := h2 p hp
         simp only [noNum, Bool.or_eq_false_iff, decide_eq_false_iff_not] at this
         omega
       · simp only [Bool.not_eq_true, List.any_eq_false] at h3
         have := h3 p hp
         simp only [lateFor, decide_eq_false_iff_not] at this
         omega
theorem right_par {l : List Cm} (h : right l = true) {j : Nat} {c : Cm} (hj : l[j]? = some c) : ∀ p ∈ c.1, 1 <= p /\ p <= j := by
 have hlt : j < l.length := (List.getElem?_eq_some_iff.1 hj).1
 have hf := right_fault h hlt
 rw [getD_of hj] at hf
 intro p hp
 have := (fault_zero hf).2.2.2.1 p hp
 rw [List.length_take] at this
 omega
end Go.Proofs.YtgaabjmbnomimaaDoor.Gr
namespace Go.Proofs.YtgaabjmbnomimaaDoor
open Go Go.Ev
-- cse
def s134 : CSpec := fun a h => match a, h with
 | [.agg [.c (.str s), .c (.sl 5 rn rt xs), .c (.sl 3 kn kt ys)], .c (.str q), .fn 82 []], [] => some ([], [.fn 166 [.ptr 1 0 0 0, .ptr 0 0 0 0, .ptr 2 0 0 0]], [.box [.c (.str s), .c (.sl 5 rn rt xs), .c (.sl 3 kn kt ys)], .box [.c (.str q)], .box [.fn 82 []]])
 | _, _ => none
noncomputable abbrev p166 : Par := par E sh (ctOf [(82, s82), (68, s68), (134, s134)]) 166 4 4
abbrev s166_0 (q : Bys) (s : Bys) (rn : OBo) (rt : Bool) (xs : LLC) (kn : OBo) (kt : Bool) (ys : LLC) (r : List (List V)) (b : Bool) (s5 : Bys) (i33 : Int) (i34 : Int) : Fr × Hp := ([(3, V.ptr 2 0 0 0), (4, V.ptr 4 0 0 0), (5, V.c (C.str s5)), (32, V.c (C.sl 3 kn kt ys)), (33, V.c (C.int IntKind.i64 i33)), (34, V.c (C.int IntKind.i64 i34))], [O.box [V.c (C.str q)], O.box [V.c (C.str s), V.c (C.sl 5 rn rt xs), V.c (C.sl 3 kn kt ys)], O.box [V.fn 82 []], O.yo r.tail b, O.box [V.yl 3]])
abbrev s166_0v (q : Bys) (s : Bys) (rn : OBo) (rt : Bool) (xs : LLC) (kn : OBo) (kt : Bool) (ys : LLC) (r : List (List V)) (b : Bool) (s5 : Bys) (i33 : Int) (i34 : Int) : Fr × Hp := ([(3, V.ptr 2 0 0 0), (4, V.ptr 4 0 0 0), (5, V.c (C.str s5)), (32, V.c (C.sl 3 kn kt ys)), (33, V.c (C.int IntKind.i64 i33)), (34, V.c (C.int IntKind.i64 i34))], [O.box [V.c (C.str q)], O.box [V.c (C.str s), V.c (C.sl 5 rn rt xs), V.c (C.sl 3 kn kt ys)], O.box [V.fn 82 []], O.yo r b, O.box [V.yl 3]])
noncomputable abbrev b166_0v : Code := loopAt (codeOf E (166)) 0
abbrev s166_0v_0 (q : Bys) (s : Bys) (rn : OBo) (rt : Bool) (xs : LLC) (kn : OBo) (kt : Bool) (ys : LLC) (r : List (List V)) (b : Bool) (s5 : Bys) (i33 : Int) (i34 : Int) (sh5 : Bys) (nlh5 : OBo) (th5 : Bool) (xsh5 : LLC) (nlh5_1 : OBo) (th5_1 : Bool) (xsh5_1 : LLC) : Fr × Hp := ([(3, V.ptr 2 0 0 0), (4, V.ptr 4 0 0 0), (5, V.c (C.str s5)), (32, V.c (C.sl 3 kn kt ys)), (33, V.c (C.int IntKind.i64 i33)), (34, V.c (C.int IntKind.i64 i34)), (41, V.fn 166 [V.ptr 6 0 0 0, V.ptr 5 0 0 0, V.ptr 7 0 0 0])], [O.box [V.c (C.str q)], O.box [V.c (C.str s), V.c (C.sl 5 rn rt xs), V.c (C.sl 3 kn kt ys)], O.box [V.fn 82 []], O.yo r b, O.box [V.yl 3], O.box [V.c (C.str sh5), V.c (C.sl 5 nlh5 th5 xsh5), V.c (C.sl 3 nlh5_1 th5_1 xsh5_1)], O.box [V.c (C.str s5)], O.box [V.fn 82 []]])
noncomputable abbrev b166_0v_0 : Code := loopAt b166_0v 0
abbrev g166_0v_0 (q : Bys) (s : Bys) (rn : OBo) (rt : Bool) (xs : LLC) (kn : OBo) (kt : Bool) (ys : LLC) (r : List (List V)) (b : Bool) (s5 : Bys) (i33 : Int) (i34 : Int) : Fr × Hp := ([(3, V.ptr 2 0 0 0), (4, V.ptr 4 0 0 0), (5, V.c (C.str s5)), (32, V.c (C.sl 3 kn kt ys)), (33, V.c (C.int IntKind.i64 i33)), (34, V.c (C.int IntKind.i64 i34)), (41, V.fn 166 [V.ptr 6 0 0 0, V.ptr 5 0 0 0, V.ptr 7 0 0 0])], [O.box [V.c (C.str q)], O.box [V.c (C.str s), V.c (C.sl 5 rn rt xs), V.c (C.sl 3 kn kt ys)], O.box [V.fn 82 []], O.yo r b, O.box [V.yl 3], O.gone, O.gone, O.gone])
abbrev x166_0v_0x0 (q : Bys) (s : Bys) (rn : OBo) (rt : Bool) (xs : LLC) (kn : OBo) (kt : Bool) (ys : LLC) (r : List (List V)) (b : Bool) (s5 : Bys) (i33 : Int) (i34 : Int) (p : Bys) (zs : LLC) (nlh8 : OBo) : Ex × Fr × Hp := (Ex.ret, [(3, V.ptr 2 0 0 0), (4, V.ptr 4 0 0 0), (5, V.c (C.str s5)), (32, V.c (C.sl 3 kn kt ys)), (33, V.c (C.int IntKind.i64 i33)), (34, V.c (C.int IntKind.i64 i34)), (41, V.fn 166 [V.ptr 6 0 0 0, V.ptr 5 0 0 0, V.ptr 7 0 0 0])], [O.box [V.c (C.str q)], O.box [V.c (C.str s), V.c (C.sl 5 rn rt xs), V.c (C.sl 3 kn kt ys)], O.box [V.fn 82 []], O.yo r.tail b, O.box [V.yl 3], O.gone, O.gone, O.gone, O.box [V.c (C.str p), V.c (C.sl 5 nlh8 false zs)]])
abbrev x166_0v_0n (q : Bys) (s : Bys) (rn : OBo) (rt : Bool) (xs : LLC) (kn : OBo) (kt : Bool) (ys : LLC) (r : List (List V)) (b : Bool) (s5 : Bys) (i33 : Int) (i34 : Int) : Ex × Fr × Hp := (Ex.nrm, [(3, V.ptr 2 0 0 0), (4, V.ptr 4 0 0 0), (5, V.c (C.str s5)), (32, V.c (C.sl 3 kn kt ys)), (33, V.c (C.int IntKind.i64 i33)), (34, V.c (C.int IntKind.i64 i34)), (41, V.fn 166 [V.ptr 6 0 0 0, V.ptr 5 0 0 0, V.ptr 7 0 0 0])], [O.box [V.c (C.str q)], O.box [V.c (C.str s), V.c (C.sl 5 rn rt xs), V.c (C.sl 3 kn kt ys)], O.box [V.fn 82 []], O.yo r b, O.box [V.yl 3], O.gone, O.gone, O.gone])
abbrev x166_0vx0 (q : Bys) (s : Bys) (rn : OBo) (rt : Bool) (xs : LLC) (kn : OBo) (kt : Bool) (ys : LLC) (r : List (List V)) (b : Bool) (s5 : Bys) (i33 : Int) (i34 : Int) (p : Bys) (zs : LLC) (nlh8 : OBo) : Ex × Fr × Hp := (Ex.ret, [(3, V.ptr 2 0 0 0), (4, V.ptr 4 0 0 0), (5, V.c (C.str s5)), (32, V.c (C.sl 3 kn kt ys)), (33, V.c (C.int IntKind.i64 i33)), (34, V.c (C.int IntKind.i64 i34)), (41, V.fn 166 [V.ptr 6 0 0 0, V.ptr 5 0 0 0, V.ptr 7 0 0 0])], [O.box [V.c (C.str q)], O.box [V.c (C.str s), V.c (C.sl 5 rn rt xs), V.c (C.sl 3 kn kt ys)], O.box [V.fn 82 []], O.yo r.tail b, O.box [V.yl 3], O.gone, O.gone, O.gone, O.box [V.c (C.str p), V.c (C.sl 5 nlh8 false zs)]])
abbrev x166_0vx1 (q : Bys) (s : Bys) (rn : OBo) (rt : Bool) (xs : LLC) (kn : OBo) (kt : Bool) (ys : LLC) (r : List (List V)) (b : Bool) (s5 : Bys) (i33 : Int) (i34 : Int) : Ex × Fr × Hp := (Ex.exit 0, [(3, V.ptr 2 0 0 0), (4, V.ptr 4 0 0 0), (5, V.c (C.str s5)), (32, V.c (C.sl 3 kn kt ys)), (33, V.c (C.int IntKind.i64 i33)), (34, V.c (C.int IntKind.i64 i34)), (35, V.c (C.bool false))], [O.box [V.c (C.str q)], O.box [V.c (C.str s), V.c (C.sl 5 rn rt xs), V.c (C.sl 3 kn kt ys)], O.box [V.fn 82 []], O.yo r b, O.box [V.yl 3]])
theorem t166_0v_0 (q : Bys) (s : Bys) (rn : OBo) (rt : Bool) (xs : LLC) (kn : OBo) (kt : Bool) (ys : LLC) (r : List (List V)) (b : Bool) (s5 : Bys) (i33 : Int) (i34 : Int) (p : Bys) (zs : LLC) : p166.rts b166_0v_0 ([V.agg [V.c (C.str p), V.c (C.sl 5 none false zs)]]) (g166_0v_0 q s rn rt xs kn kt ys r b s5 i33 i34) = (Tr.chk (yoHd r [V.agg [V.c (C.str p), V.c (C.sl 5 none false zs)]]) (Tr.br (!yoAns r b) (Tr.leaf (R.x (x166_0v_0x0 q s rn rt xs kn kt ys r b s5 i33 i34 p zs (none)))) (Tr.leaf (R.s (g166_0v_0 q s rn rt xs kn kt ys (r.tail) b s5 i33 i34))))) := by kernel_rfl
theorem k166_0v_0n (q : Bys) (s : Bys) (rn : OBo) (rt : Bool) (xs : LLC) (kn : OBo) (kt : Bool) (ys : LLC) (r : List (List V)) (b : Bool) (s5 : Bys) (i33 : Int) (i34 : Int) : p166.lkx b166_0v 0 (x166_0v_0n q s rn rt xs kn kt ys r b s5 i33 i34) = (Tr.leaf (R.s (s166_0v q s rn rt xs kn kt ys r b s5 i33 (IntKind.i64.wrap (i34 + 1))))) := by kernel_rfl
theorem k166_0v_0x0 (q : Bys) (s : Bys) (rn : OBo) (rt : Bool) (xs : LLC) (kn : OBo) (kt : Bool) (ys : LLC) (r : List (List V)) (b : Bool) (s5 : Bys) (i33 : Int) (i34 : Int) (p : Bys) (zs : LLC) (nlh8 : OBo) : p166.lkx b166_0v 0 (x166_0v_0x0 q s rn rt xs kn kt ys r b s5 i33 i34 p zs nlh8) = (Tr.leaf (R.x (x166_0vx0 q s rn rt xs kn kt ys r b s5 i33 i34 p zs nlh8))) := by kernel_rfl
theorem t166_0v (q : Bys) (s : Bys) (rn : OBo) (rt : Bool) (xs : LLC) (kn : OBo) (kt : Bool) (ys : LLC) (r : List (List V)) (b : Bool) (s5 : Bys) (i33 : Int) (i34 : Int) : p166.lts b166_0v (s166_0v q s rn rt xs kn kt ys r b s5 i33 i34) = (Tr.br (decide (i34 < i33)) (Tr.chk (decide (0 <= i34)) (Tr.chk true (Tr.chk (decide (i34.toNat < ys.length)) (Tr.chk (shOk [Sk.str, Sk.sl 5, Sk.sl 3] (ys.getD i34.toNat [])) (Tr.rs 0 (s166_0v_0 q s rn rt xs kn kt ys r b s5 i33 i34 (((ys.getD i34.toNat []).headD C.pnil).st) (none) false (((ys.getD i34.toNat []).tail.headD C.pnil).xs) (none) false (((ys.getD i34.toNat []).tail.tail.headD C.pnil).xs))))))) (Tr.leaf (R.x (x166_0vx1 q s rn rt xs kn kt ys r b s5 i33 i34)))) := by kernel_rfl
theorem k166_0vx0 (q : Bys) (s : Bys) (rn : OBo) (rt : Bool) (xs : LLC) (kn : OBo) (kt : Bool) (ys : LLC) (r : List (List V)) (b : Bool) (s5 : Bys) (i33 : Int) (i34 : Int) (p : Bys) (zs : LLC) (nlh8 : OBo) : p166.fkx 0 (x166_0vx0 q s rn rt xs kn kt ys r b s5 i33 i34 p zs nlh8) = (Tr.leaf (R.out [] [O.box [V.c (C.str q)], O.box [V.c (C.str s), V.c (C.sl 5 rn rt xs), V.c (C.sl 3 kn kt ys)], O.box [V.fn 82 []], O.yo r.tail b])) := by kernel_rfl
theorem k166_0vx1 (q : Bys) (s : Bys) (rn : OBo) (rt : Bool) (xs : LLC) (kn : OBo) (kt : Bool) (ys : LLC) (r : List (List V)) (b : Bool) (s5 : Bys) (i33 : Int) (i34 : Int) : p166.fkx 0 (x166_0vx1 q s rn rt xs kn kt ys r b s5 i33 i34) = (Tr.leaf (R.out [] [O.box [V.c (C.str q)], O.box [V.c (C.str s), V.c (C.sl 5 rn rt xs), V.c (C.sl 3 kn kt ys)], O.box [V.fn 82 []], O.yo r b])) := by kernel_rfl
theorem t166 (q : Bys) (s : Bys) (rn : OBo) (rt : Bool) (xs : LLC) (kn : OBo) (kt : Bool) (ys : LLC) (r : List (List V)) (b : Bool) : p166.ft ([V.yl 3, V.ptr 0 0 0 0, V.ptr 1 0 0 0, V.ptr 2 0 0 0]) ([O.box [V.c (C.str q)], O.box [V.c (C.str s), V.c (C.sl 5 rn rt xs), V.c (C.sl 3 kn kt ys)], O.box [V.fn 82 []], O.yo r b]) = (Tr.chk (decide (q.length + s.length < 4294967296)) (Tr.br false (Tr.leaf (R.out [] [O.box [V.c (C.str q)], O.box [V.c (C.str s), V.c (C.sl 5 rn rt xs), V.c (C.sl 3 kn kt ys)], O.box [V.fn 82 []], O.yo r b])) (Tr.br (decide (0 < (↑xs.length : Int))) (Tr.chk (decide (xs.length < 4294967296)) (Tr.chk (decide (rn ≠ some true \/ xs = [])) (Tr.chk (yoHd r [V.agg [V.c (C.str (q ++ s)), V.c (C.sl 5 none false xs)]]) (Tr.br (!yoAns r b) (Tr.leaf (R.out [] [O.box [V.c (C.str q)], O.box [V.c (C.str s), V.c (C.sl 5 rn rt xs), V.c (C.sl 3 kn kt ys)], O.box [V.fn 82 []], O.yo r.tail b])) (Tr.ls 0 (s166_0 q s rn rt xs kn kt ys r b (q ++ s) ((↑ys.length : Int)) (0))))))) (Tr.ls 0 (s166_0v q s rn rt xs kn kt ys r b (q ++ s) ((↑ys.length : Int)) (0)))))) := by kernel_rfl
end Go.Proofs.YtgaabjmbnomimaaDoor
namespace Go.Proofs.YtgaabjmbnomimaaDoor
open Go Go.Ev
theorem want_take {es u : List (List V)} {b : Bool} (hw : Want es u b) : ∃ m, u = es.take m /\ m <= es.length /\ (b = false -> m = es.length) /\ (b = true -> 1 <= m) := by
 rcases hw with ⟨h1, h2⟩ | ⟨h1, h2, h3⟩
 · exact ⟨es.length, by rw [List.take_length]; exact h2, Nat.le_refl _, fun _ => rfl, fun h => by rw [h1] at h; cases h⟩
 · exact ⟨u.length, List.prefix_iff_eq_take.1 h3, h3.length_le, fun h => (by rw [h1] at h; cases h), fun _ => List.length_pos_iff.2 h2⟩
def ownW (q : Bys) (rs : List Row) : List Ent := match rs with | [] => [] | r :: s => [(q, r :: s)]
theorem walkT_eq (al : List UInt8 -> Bool) (q s : Bys) (rs : List Row) (ks : List Nd) : walkT al q (.node s rs ks) = cond (al (q ++ s)) (ownW (q ++ s) rs ++ walkL al (q ++ s) ks) [] := by
 cases rs <;> simp [walkT, ownW]
theorem walkL_app (al : List UInt8 -> Bool) (q : Bys) (a b : List Nd) : walkL al q (a ++ b) = walkL al q a ++ walkL al q b := by
 induction a with
 | nil => rfl
 | cons t r ih => simp [walkL, ih]
theorem walkL_take (al : List UInt8 -> Bool) (q : Bys) {l : List Nd} {k : Nat} (hk : k < l.length) : walkL al q (l.take (k + 1)) = walkL al q (l.take k) ++ walkT al q l[k] := by
 rw [List.take_succ_eq_append_getElem hk, walkL_app]; simp [walkL]
theorem walkL_take_le (al : List UInt8 -> Bool) (q : Bys) (l : List Nd) (k : Nat) : (walkL al q (l.take k)).length <= (walkL al q l).length := by
 conv => rhs; rw [<- List.take_append_drop k l, walkL_app, List.length_append]
 omega
mutual
theorem eqb_refl : ∀ x : C, x.eqb x = true
 | .int .. | .bool _ | .str _ | .pnil | .inil | .fnil => by simp [C.eqb]
 | .sl z nl t xs => by simp [C.eqb, eqbLL_refl xs]
theorem eqbL_refl : ∀ l : List C, eqbL l l = true
 | [] => by simp [eqbL]
 | x :: r => by simp [eqbL, eqb_refl x, eqbL_refl r]
theorem eqbLL_refl : ∀ l : List (List C), eqbLL l l = true
 | [] => by simp [eqbLL]
 | x :: r => by simp [eqbLL, eqbL_refl x, eqbLL_refl r]
end
theorem eqb_encE (p : Bys) (rs : List Row) : eqbV [V.agg [V.c (C.str p), V.c (C.sl 5 none false (rows rs))]] (encE (p, rs)) = true := by
 simp [encE, eqbV, V.eqb, eqb_refl]
structure At (u : List (List V)) (b : Bool) (m c : Nat) (r : List (List V)) : Prop where
 eq : r = u.drop c
 le : c <= m
 lt : b = true -> c < m
theorem At.next {es : List (List V)} {u : List (List V)} {b : Bool} {m c : Nat} {r : List (List V)} (hu : u = es.take m) (hm : m <= es.length) (hb : b = false -> m = es.length) (h : At u b m c r) (hc : c < es.length) :
   c < m /\ r = es[c] :: u.drop (c + 1) /\ r.tail = u.drop (c + 1) /\ ((yoAns r b = true /\ At u b m (c + 1) r.tail) \/ (yoAns r b = false /\ r.tail = [] /\ b = true)) := by
 have hcm : c < m := by
   cases b with
   | false => have := hb rfl; omega
   | true => exact h.lt rfl
 have hul : u.length = m := by rw [hu, List.length_take]; omega
 have hcu : c < u.length := by omega
 have hd : r = es[c] :: u.drop (c + 1) := by
   rw [h.eq, List.drop_eq_getElem_cons hcu]
   congr 1
   simp only [hu, List.getElem_take]
 have ht : r.tail = u.drop (c + 1) := by rw [hd]; rfl
 refine ⟨hcm, hd, ht, ?_⟩
 unfold yoAns
 cases b with
 | false => exact .inl ⟨by simp, ht, by omega, fun h => by cases h⟩
 | true =>
   by_cases hlast : c + 1 = m
   · right
     have hnil : u.drop (c + 1) = [] := List.drop_of_length_le (by omega)
     rw [ht, hnil]
     exact ⟨by simp, rfl, rfl⟩
   · left
     have hne : (u.drop (c + 1)).isEmpty = false := by
       rw [List.isEmpty_eq_false_iff]
       intro h
       have := congrArg List.length h
       rw [List.length_drop] at this
       simp at this; omega
     rw [ht]
     exact ⟨by simp [hne], rfl, by omega, fun _ => by omega⟩
theorem At.end_ {es : List (List V)} {u : List (List V)} {b : Bool} {m c : Nat} {r : List (List V)} (hu : u = es.take m) (hm : m <= es.length) (h : At u b m c r) (hc : c = es.length) : r = [] /\ b = false := by
 have hbf : b = false := by
   cases b with
   | false => rfl
   | true => have := h.lt rfl; omega
 exact ⟨by rw [h.eq]; exact List.drop_of_length_le (by rw [hu, List.length_take]; omega), hbf⟩
theorem f134 (s : Bys) (rn : OBo) (rt : Bool) (xs : LLC) (kn : OBo) (kt : Bool) (ys : LLC) (q : Bys) : call E 134 [.agg [.c (.str s), .c (.sl 5 rn rt xs), .c (.sl 3 kn kt ys)], .c (.str q), .fn 82 []] [] =
   some ([.fn 166 [.ptr 1 0 0 0, .ptr 0 0 0 0, .ptr 2 0 0 0]], [.box [.c (.str s), .c (.sl 5 rn rt xs), .c (.sl 3 kn kt ys)], .box [.c (.str q)], .box [.fn 82 []]]) := by
 refine call_of (E := E) (sh := sh) (ct := ctOf []) (na := 3) (m := 0) ctOf_nil rfl rfl rfl rfl rfl rfl ?_
 rw [t134]; rfl
theorem s134_ok : CSpecOk E 134 s134 := by
 intro a h cs vals h' he hc
 unfold s134 at he
 split at he <;> simp only [Option.some.injEq, Prod.mk.injEq, reduceCtorEq] at he
 obtain ⟨rfl, rfl, rfl⟩ := he
 exact f134 _ _ _ _ _ _ _ _
def alA (_ : Bys) : Bool := true
def boxK (q s : Bys) (rn : OBo) (rt : Bool) (xs : LLC) (kn : OBo) (kt : Bool) (ys : LLC) : Hp := [.box [.c (.str q)], .box [.c (.str s), .c (.sl 5 rn rt xs), .c (.sl 3 kn kt ys)], .box [.fn 82 []]]
theorem sq166_ok (q s : Bys) (rn : OBo) (rt : Bool) (rs : List Row) (kn : OBo) (kt : Bool) (ks : List Nd) :
   E.seq 166 [.yl 3, .ptr 0 0 0 0, .ptr 1 0 0 0, .ptr 2 0 0 0] (boxK q s rn rt (rows rs) kn kt (encL ks)) = some ((walkT alA q (.node s rs ks)).map encE) := by
 have : sq 166 [.yl 3, .ptr 0 0 0 0, .ptr 1 0 0 0, .ptr 2 0 0 0] (boxK q s rn rt (rows rs) kn kt (encL ks)) = some ((walkT alA q (.node s rs ks)).map encE) := by
   simp only [sq, sq166, boxK, alongP, toRows_rows, decL_enc]; rfl
 exact this
def args166 : List V := [.yl 3, .ptr 0 0 0 0, .ptr 1 0 0 0, .ptr 2 0 0 0]
set_option maxHeartbeats 1000000 in
theorem f166 : ∀ (d : Nat) (q s : Bys) (rn : OBo) (rt : Bool) (rs : List Row) (kn : OBo) (kt : Bool) (ks : List Nd) (n : Nat), depL ks < d -> q.length + s.length + n <= 24 -> kidsOk ks n -> right rs = true -> (rn ≠ some true \/ rs = []) →
   ∀ (u : List (List V)) (b : Bool), Want ((walkT alA q (.node s rs ks)).map encE) u b →
   call E 166 args166 (boxK q s rn rt (rows rs) kn kt (encL ks) ++ [.yo u b]) = some ([], boxK q s rn rt (rows rs) kn kt (encL ks) ++ [.yo [] b])
 | 0, _, _, _, _, _, _, _, _, _, h, _, _, _, _, _, _, _ => by omega
 | d + 1, q, s, rn, rt, rs, kn, kt, ks, n, hd, hl, hk, hr, hn, u, b, hw => by
   have hct : (ctOf [(82, s82), (68, s68), (134, s134)]).ok E := ctOf_cons s82_ok (ctOf_cons s68_ok (ctOf_cons s134_ok ctOf_nil))
   refine call_of (E := E) (sh := sh) (ct := ctOf [(82, s82), (68, s68), (134, s134)]) (na := 4) (m := 4) hct rfl rfl rfl rfl rfl rfl ?_
   show p166.fd (p166.ft [.yl 3, .ptr 0 0 0 0, .ptr 1 0 0 0, .ptr 2 0 0 0] [.box [.c (.str q)], .box [.c (.str s), .c (.sl 5 rn rt (rows rs)), .c (.sl 3 kn kt (encL ks))], .box [.fn 82 []], .yo u b]) =
     some (.out [] [.box [.c (.str q)], .box [.c (.str s), .c (.sl 5 rn rt (rows rs)), .c (.sl 3 kn kt (encL ks))], .box [.fn 82 []], .yo [] b])
   rw [t166, encL_length]
   have hkl := okL_len (okL_iff'.2 hk) (by omega)
   have hrl := right_len4 hr
   have hn' : rn ≠ some true \/ rows rs = [] := hn.imp id fun h => by rw [h]; rfl
   rw [walkT_eq] at hw
   simp only [alA, cond_true] at hw
   obtain ⟨m, hu, hm0, hm1, hm2⟩ := want_take hw
   generalize hes : (ownW (q ++ s) rs ++ walkL alA (q ++ s) ks).map encE = es at *
   have hesl : es.length = (ownW (q ++ s) rs).length + (walkL alA (q ++ s) ks).length := by rw [<- hes]; simp
   have at0 : At u b m 0 u := ⟨rfl, Nat.zero_le _, fun h => hm2 h⟩
   -- the kids
   have key : ∀ r : List (List V), At u b m (ownW (q ++ s) rs).length r -> p166.fd (Tr.ls 0 (s166_0v q s rn rt (rows rs) kn kt (encL ks) r b (q ++ s) ks.length 0)) =
       some (.out [] [.box [.c (.str q)], .box [.c (.str s), .c (.sl 5 rn rt (rows rs)), .c (.sl 3 kn kt (encL ks))], .box [.fn 82 []], .yo [] b]) := by
     intro r hat
     refine fd_post hct (by kernel_rfl) rfl (list_post (p := p166) hct (b := b166_0v) ks.length (fun k (r : List (List V)) => s166_0v q s rn rt (rows rs) kn kt (encL ks) r b (q ++ s) ks.length k) (fun k r => At u b m ((ownW (q ++ s) rs).length + (walkL alA (q ++ s) (ks.take k)).length) r) _ ?_ ?_ 0 (Nat.zero_le _) r (by simpa [walkL] using hat))
     · intro k r hk2 hat
       have hT := hk.1 _ (List.getElem_mem hk2)
       obtain ⟨g1, g2, g3, g4, g5⟩ := okT_iff.1 hT
       have hkid : depL ks[k].kids < d := by have := depL_kid (List.getElem_mem hk2); omega
       have hnx := walkL_take alA (q ++ s) hk2
       have hle := walkL_take_le alA (q ++ s) ks (k + 1)
       have hesk : ∀ j, (hj : j < (walkT alA (q ++ s) ks[k]).length) -> es[(ownW (q ++ s) rs).length + (walkL alA (q ++ s) (ks.take k)).length + j]? = some (encE (walkT alA (q ++ s) ks[k])[j]) := fun j hj => by
         rw [<- hes, List.getElem?_map, List.getElem?_append_right (by omega)]
         have e0 : walkL alA (q ++ s) ks = walkL alA (q ++ s) (ks.take (k + 1)) ++ walkL alA (q ++ s) (ks.drop (k + 1)) := by rw [<- walkL_app, List.take_append_drop]
         rw [e0, hnx, List.append_assoc, List.getElem?_append_right (by omega), List.getElem?_append_left (by omega)]
         have e1 : (ownW (q ++ s) rs).length + (walkL alA (q ++ s) (ks.take k)).length + j - (ownW (q ++ s) rs).length - (walkL alA (q ++ s) (ks.take k)).length = j := by omega
         rw [e1, List.getElem?_eq_getElem hj]; rfl
       rw [hnx, List.length_append] at hle
       have hin := ranges_post (p := p166) hct (c := b166_0v_0) (gi := 166) (caps := [.ptr 6 0 0 0, .ptr 5 0 0 0, .ptr 7 0 0 0]) (args := args166)
         (s0 := s166_0v_0 q s rn rt (rows rs) kn kt (encL ks) r b (q ++ s) ks.length k ks[k].lab none false (rows ks[k].rows) none false (encL ks[k].kids))
         (h0 := boxK (q ++ s) ks[k].lab none false (rows ks[k].rows) none false (encL ks[k].kids)) (ids := [6, 5, 7]) (by kernel_rfl) (walkT alA (q ++ s) ks[k]) encE rfl (by kernel_rfl)
         (by have := sq166_ok (q ++ s) ks[k].lab none false ks[k].rows none false ks[k].kids; rw [Nd.eta] at this; exact this)
         (fun u' b' hw' => ⟨_, _, f166 d (q ++ s) ks[k].lab none false ks[k].rows none false ks[k].kids (n - ks[k].lab.length) hkid (by rw [List.length_append]; omega) g5 g3 (.inl (by simp)) u' b' (by rw [Nd.eta]; exact hw'), rfl⟩)
         (fun (r : List (List V)) => g166_0v_0 q s rn rt (rows rs) kn kt (encL ks) r b (q ++ s) ks.length k)
         (fun (l : List Ent) r => ∃ j, l = (walkT alA (q ++ s) ks[k]).drop j /\ j <= (walkT alA (q ++ s) ks[k]).length /\ At u b m ((ownW (q ++ s) rs).length + (walkL alA (q ++ s) (ks.take k)).length + j) r)
         (fun y => (∃ r', At u b m ((ownW (q ++ s) rs).length + (walkL alA (q ++ s) (ks.take (k + 1))).length) r' /\ p166.ld b166_0v (p166.lkx b166_0v 0 y) = some (R.s (s166_0v q s rn rt (rows rs) kn kt (encL ks) r' b (q ++ s) ks.length ((k + 1 : Nat) : Int)))) ∨
           (∃ x : Ex × Fr × Hp, x.1 ≠ .nrm /\ p166.fd (p166.fkx 0 x) = some (.out [] [.box [.c (.str q)], .box [.c (.str s), .c (.sl 5 rn rt (rows rs)), .c (.sl 3 kn kt (encL ks))], .box [.fn 82 []], .yo [] b]) /\ p166.ld b166_0v (p166.lkx b166_0v 0 y) = some (R.x x)))
         (by
           rintro ⟨p, prs⟩ l r ⟨j, hj, hjl, hat⟩
           have hj2 : j < (walkT alA (q ++ s) ks[k]).length := by
             rcases Nat.lt_or_ge j (walkT alA (q ++ s) ks[k]).length with h | h
             · exact h
             · rw [List.drop_of_length_le h] at hj; cases hj
           rw [List.drop_eq_getElem_cons hj2] at hj
           simp only [List.cons.injEq] at hj
           obtain ⟨hj3, rfl⟩ := hj
           have hee := hesk j hj2
           rw [<- hj3] at hee
           obtain ⟨hc1, hc2⟩ := List.getElem?_eq_some_iff.1 hee
           obtain ⟨_, hr1, hr2, hr3⟩ := hat.next hu hm0 hm1 hc1
           rw [hc2] at hr1
           have hrd : p166.rds b166_0v_0 (g166_0v_0 q s rn rt (rows rs) kn kt (encL ks) r b (q ++ s) ks.length k) (p166.rts b166_0v_0 (encE (p, prs)) (g166_0v_0 q s rn rt (rows rs) kn kt (encL ks) r b (q ++ s) ks.length k)) =
               (if (!yoAns r b) = true then some (R.x (x166_0v_0x0 q s rn rt (rows rs) kn kt (encL ks) r b (q ++ s) ks.length k p (rows prs) none)) else some (R.s (g166_0v_0 q s rn rt (rows rs) kn kt (encL ks) r.tail b (q ++ s) ks.length k))) := by
             refine (congrArg _ (t166_0v_0 q s rn rt (rows rs) kn kt (encL ks) r b (q ++ s) ks.length k p (rows prs))).trans ?_
             have hyo : yoHd r [V.agg [V.c (C.str p), V.c (C.sl 5 none false (rows prs))]] = true := by rw [hr1]; exact eqb_encE p prs
             rw [rd_chk', if_pos hyo, rd_br, rd_leaf, rd_leaf]
           rcases hr3 with ⟨h1, h2⟩ | ⟨h1, h2, h3⟩
           · left
             refine ⟨r.tail, ⟨j + 1, rfl, by omega, ?_⟩, ?_⟩
             · rw [<- Nat.add_assoc]; exact h2
             · rw [hrd, h1]; rfl
           · right
             refine ⟨x166_0v_0x0 q s rn rt (rows rs) kn kt (encL ks) r b (q ++ s) ks.length k p (rows prs) none, by simp, .inr ⟨x166_0vx0 q s rn rt (rows rs) kn kt (encL ks) r b (q ++ s) ks.length k p (rows prs) none, by simp, ?_, ?_⟩, ?_⟩
             · rw [k166_0vx0, fd_leaf, h2]
             · rw [k166_0v_0x0, ld_leaf]
             · rw [hrd, h1]; rfl)
         (by
           rintro r ⟨j, hj, hjl, hat⟩
           have hj2 : j = (walkT alA (q ++ s) ks[k]).length := by
             rcases Nat.lt_or_ge j (walkT alA (q ++ s) ks[k]).length with h | h
             · rw [List.drop_eq_getElem_cons h] at hj; cases hj
             · omega
           subst hj2
           left
           refine ⟨r, by rw [hnx, List.length_append, <- Nat.add_assoc]; exact hat, ?_⟩
           show p166.ld b166_0v (p166.lkx b166_0v 0 (x166_0v_0n q s rn rt (rows rs) kn kt (encL ks) r b (q ++ s) ks.length k)) = _
           rw [k166_0v_0n, ld_leaf, wrap_succ (by omega)])
         r rfl ⟨0, by simp, Nat.zero_le _, by simpa using hat⟩
       rw [t166_0v]
       simp only [nd_ok, nd_lab, nd_rows, nd_kids, encL_length, ld_br, ld_chk', ld_leaf, decide_true, if_true, Int.toNat_natCast, Int.natCast_nonneg, Int.ofNat_lt, ne_eq, hk2, encL_getD hk2]
       obtain ⟨y, hy, hR⟩ := hin
       rcases hy with ⟨r', h1, h2⟩ | ⟨x, h1, h2, h3⟩
       · exact .inl ⟨r', h1, ld_rpost hct (by kernel_rfl) rfl ⟨y, h2, hR⟩⟩
       · exact .inr ⟨x, h1, h2, ld_rpost hct (by kernel_rfl) rfl ⟨y, h3, hR⟩⟩
     · intro r hat
       rw [List.take_length, <- hesl] at hat
       obtain ⟨rfl, rfl⟩ := hat.end_ hu hm0 rfl
       rw [t166_0v]
       exact ⟨x166_0vx1 q s rn rt (rows rs) kn kt (encL ks) [] false (q ++ s) ks.length ks.length, by simp, by rw [k166_0vx1, fd_leaf], by simp only [encL_length, ld_br, ld_chk', ld_leaf, decide_true, decide_eq_true_eq, if_true, Int.toNat_natCast, Int.natCast_nonneg, if_false, Int.lt_irrefl]⟩
   have hql : q.length + s.length < 4294967296 := by omega
   have hrl2 : rs.length < 4294967296 := by omega
   simp only [fd_br, fd_chk', fd_leaf, decide_true, decide_eq_true_eq, if_true, Bool.false_eq_true, if_false, ne_eq, Bool.not_eq_true', rows_length, hql, hrl2]
   by_cases c : rs = []
   · subst c
     rw [if_neg (by simp)]
     exact key u at0
   · have c0 : (0 : Int) < rs.length := by have := List.length_pos_iff.2 c; omega
     obtain ⟨r0, rr, rfl⟩ : ∃ a r, rs = a :: r := by cases rs with | nil => exact absurd rfl c | cons a r => exact ⟨a, r, rfl⟩
     have ho : ownW (q ++ s) (r0 :: rr) = [(q ++ s, r0 :: rr)] := rfl
     have h0 : 0 < es.length := by rw [hesl, ho]; simp; omega
     have he0 : es[0] = encE (q ++ s, r0 :: rr) := by simp only [<- hes, ho]; rfl
     obtain ⟨_, hr1, hr2, hr3⟩ := at0.next hu hm0 hm1 h0
     rw [he0] at hr1
     have hyo : yoHd u [V.agg [V.c (C.str (q ++ s)), V.c (C.sl 5 none false (rows (r0 :: rr)))]] = true := by rw [hr1]; exact eqb_encE _ _
     rw [if_pos c0]
     simp only [hn', hyo, if_true]
     rcases hr3 with ⟨h1, h2⟩ | ⟨h1, h2, h3⟩
     · rw [if_neg (by simp [h1])]
       exact key u.tail (by rw [ho]; exact h2)
     · rw [if_pos (by simp [h1]), h2]
end Go.Proofs.YtgaabjmbnomimaaDoor
namespace Go.Proofs.YtgaabjmbnomimaaDoor
open Go Go.Ev
-- cse
noncomputable abbrev p81 : Par := par E sh (ctOf [(28, s28), (134, s134), (82, s82)]) 81 3 0
abbrev s81_0 (s : Bys) (rn : OBo) (rt : Bool) (xs : LLC) (kn : OBo) (kt : Bool) (ys : LLC) (nl6 : OBo) (t6 : Bool) (xs6 : LLC) (ys1 : LLC) (nh2 : Nat) (sh4 : Bys) : Fr × Hp := ([(5, V.ptr 0 0 0 0), (6, V.c (C.sl 2 nl6 t6 xs6)), (7, V.ptr 2 0 0 0), (14, V.fn 166 [V.ptr 4 0 0 0, V.ptr 3 0 0 0, V.ptr 5 0 0 0])], [O.box [V.fn 82 []], O.mem 2 0 ys1, O.box [V.buf 1 0 0 nh2], O.box [V.c (C.str s), V.c (C.sl 5 rn rt xs), V.c (C.sl 3 kn kt ys)], O.box [V.c (C.str sh4)], O.box [V.fn 82 []]])
noncomputable abbrev b81_0 : Code := loopAt (codeOf E (81)) 0
abbrev g81_0 (nl6 : OBo) (t6 : Bool) (xs6 : LLC) (ys1 : LLC) (nh2 : Nat) : Fr × Hp := ([(5, V.ptr 0 0 0 0), (6, V.c (C.sl 2 nl6 t6 xs6)), (7, V.ptr 2 0 0 0), (14, V.fn 166 [V.ptr 4 0 0 0, V.ptr 3 0 0 0, V.ptr 5 0 0 0])], [O.box [V.fn 82 []], O.mem 2 0 ys1, O.box [V.buf 1 0 0 nh2], O.gone, O.gone, O.gone])
abbrev x81_0n (nl6 : OBo) (t6 : Bool) (xs6 : LLC) (ys1 : LLC) (nh2 : Nat) : Ex × Fr × Hp := (Ex.nrm, [(5, V.ptr 0 0 0 0), (6, V.c (C.sl 2 nl6 t6 xs6)), (7, V.ptr 2 0 0 0), (14, V.fn 166 [V.ptr 4 0 0 0, V.ptr 3 0 0 0, V.ptr 5 0 0 0])], [O.box [V.fn 82 []], O.mem 2 0 ys1, O.box [V.buf 1 0 0 nh2], O.gone, O.gone, O.gone])
theorem t81_0 (nl6 : OBo) (t6 : Bool) (xs6 : LLC) (ys1 : LLC) (nh2 : Nat) (p : Bys) (zs : LLC) : p81.rts b81_0 ([V.agg [V.c (C.str p), V.c (C.sl 5 none false zs)]]) (g81_0 nl6 t6 xs6 ys1 nh2) = (Tr.br true (Tr.chk true (Tr.chk true (Tr.chk (decide (nh2 + 1 < 4294967296)) (Tr.chk true (Tr.leaf (R.s (g81_0 nl6 t6 xs6 (List.take nh2 ys1 ++ [[C.str p, C.sl 5 none false zs]]) (nh2 + 1)))))))) (Tr.leaf (R.s (g81_0 nl6 t6 xs6 ys1 nh2)))) := by kernel_rfl
theorem k81_0n (nl6 : OBo) (t6 : Bool) (xs6 : LLC) (ys1 : LLC) (nh2 : Nat) : p81.fkx 0 (x81_0n nl6 t6 xs6 ys1 nh2) = (Tr.leaf (R.out [V.c (C.sl 2 none false (List.take nh2 ys1))] [])) := by kernel_rfl
theorem t81 (s : Bys) (rn : OBo) (rt : Bool) (xs : LLC) (kn : OBo) (kt : Bool) (ys : LLC) : p81.ft ([V.agg [V.c (C.str s), V.c (C.sl 5 rn rt xs), V.c (C.sl 3 kn kt ys)], V.fn 82 [], V.fn 82 []]) ([]) = (Tr.chk (isRows xs) (Tr.chk (isL ys) (Tr.br (checkT (Nd.node s (toRows xs) (decL ys)) != 0) (Tr.leaf (R.out [V.c (C.sl 2 none false [])] [])) (Tr.rs 0 (s81_0 s rn rt xs kn kt ys (some true) true ([]) ([]) (0) ([])))))) := by kernel_rfl
def s81 : CSpec := fun a h => match a, h with
 | [.agg [.c (.str s), .c (.sl 5 rn rt xs), .c (.sl 3 kn kt ys)], .fn 82 [], .fn 82 []], [] => some ([isRows xs, isL ys, decide ((entL (decL ys)).length < 1000000000)], [.c (.sl 2 none false (ents (entP (.node s (toRows xs) (decL ys)))))], [])
 | _, _ => none
noncomputable abbrev p34 : Par := par E sh (ctOf [(81, s81)]) 34 1 0
theorem t34 (s : Bys) (rn : OBo) (rt : Bool) (xs : LLC) (kn : OBo) (kt : Bool) (ys : LLC) : p34.ft ([V.agg [V.c (C.str s), V.c (C.sl 5 rn rt xs), V.c (C.sl 3 kn kt ys)]]) ([]) = (Tr.chk (isRows xs) (Tr.chk (isL ys) (Tr.chk (decide ((entL (decL ys)).length < 1000000000)) (Tr.leaf (R.out [V.c (C.sl 2 none false (ents (entP (Nd.node s (toRows xs) (decL ys)))))] []))))) := by kernel_rfl
end Go.Proofs.YtgaabjmbnomimaaDoor
namespace Go.Proofs.YtgaabjmbnomimaaDoor
open Go Go.Ev
theorem ownW_E (q : Bys) (rs : List Row) : ownW q rs = ownE q rs := by
 unfold ownE; cases rs <;> simp [ownW]
mutual
theorem walkT_all : ∀ (q : Bys) (t : Nd), walkT alA q t = pre q (entT t)
 | q, .node s rs ks => by
   rw [walkT_eq, entT_node, <- ownW_E, <- walkL_all (q ++ s) ks]; rfl
theorem walkL_all : ∀ (q : Bys) (l : List Nd), walkL alA q l = pre q (entL l)
 | q, [] => rfl
 | q, t :: r => by rw [walkL, entL, pre_app, walkT_all q t, walkL_all q r]
end
theorem walk_root (ks : List Nd) : walkT alA [] (.node [] [] ks) = entL ks := by
 rw [walkT_all, entT_node, List.nil_append, pre_nil]; rfl
theorem ents_take (l : List Ent) (n : Nat) (h : n = l.length) : List.take n (ents l) = ents l := by rw [h, <- ents_length, List.take_length]
theorem entP_node (s : Bys) (rs : List Row) (ks : List Nd) : entP (.node s rs ks) = cond (okR (.node s rs ks)) (entL ks) [] := rfl
theorem ents_snoc (l : List Ent) (p : Bys) (rs : List Row) : ents l ++ [[C.str p, C.sl 5 none false (rows rs)]] = ents (l ++ [(p, rs)]) := by simp [ents, ee]
theorem f81 (s : Bys) (rn : OBo) (rt : Bool) (rs : List Row) (kn : OBo) (kt : Bool) (ks : List Nd) (hn : (entL ks).length < 1000000000) :
   call E 81 [.agg [.c (.str s), .c (.sl 5 rn rt (rows rs)), .c (.sl 3 kn kt (encL ks))], .fn 82 [], .fn 82 []] [] = some ([.c (.sl 2 none false (ents (entP (.node s rs ks))))], []) := by
 have hct : (ctOf [(28, s28), (134, s134), (82, s82)]).ok E := ctOf_cons s28_ok (ctOf_cons s134_ok (ctOf_cons s82_ok ctOf_nil))
 refine call_of (E := E) (sh := sh) (ct := ctOf [(28, s28), (134, s134), (82, s82)]) (na := 3) (m := 0) hct rfl rfl rfl rfl rfl rfl ?_
 rw [t81]
 simp only [isL_enc, decL_enc, fd_br, fd_chk', fd_leaf, if_true, Bool.not_eq_true', isRows_rows, toRows_rows, checkT_ne]
 rw [entP_node]
 cases c1 : okR (.node s rs ks) with
 | false => rfl
 | true =>
   have c1' := okR_iff.1 c1
   simp only [Nd.lab_node, Nd.rows_node, Nd.kids_node] at c1'
   obtain ⟨rfl, rfl, hk⟩ := c1'
   simp only [cond_true]
   refine fd_rpost hct (by kernel_rfl) rfl (ranges_post (p := p81) hct (c := b81_0) (gi := 166) (caps := [.ptr 4 0 0 0, .ptr 3 0 0 0, .ptr 5 0 0 0]) (args := args166)
     (h0 := boxK [] [] rn rt (rows []) kn kt (encL ks)) (ids := [4, 3, 5]) (by kernel_rfl) (entL ks) encE rfl (by kernel_rfl)
     (by have := sq166_ok [] [] rn rt [] kn kt ks; rw [walk_root] at this; exact this)
     (fun u b hw => ⟨_, _, f166 (depL ks + 1) [] [] rn rt [] kn kt ks 24 (Nat.lt_succ_self _) (by simp) hk rfl (.inr rfl) u b (by rw [walk_root]; exact hw), rfl⟩)
     (fun (acc : List Ent) => g81_0 (some true) true [] (ents acc) acc.length) (fun l acc => acc ++ l = entL ks) _ ?_ ?_ [] rfl rfl)
   · rintro ⟨p, prs⟩ l acc hi
     left
     have hlen : acc.length + 1 < 4294967296 := by
       have := congrArg List.length hi
       simp only [List.length_append, List.length_cons] at this; omega
     refine ⟨acc ++ [(p, prs)], by rw [<- hi]; simp, ?_⟩
     refine (congrArg _ (t81_0 (some true) true [] (ents acc) acc.length p (rows prs))).trans ?_
     simp only [rd_br, rd_chk', rd_leaf, if_true, hlen, decide_true, ents_take acc acc.length rfl, ents_snoc, List.length_append, List.length_singleton]
   · intro acc hi
     rw [List.append_nil] at hi
     subst hi
     show p81.fd (p81.fkx 0 (x81_0n (some true) true [] (ents (entL ks)) (entL ks).length)) = _
     rw [k81_0n, fd_leaf, ents_take _ _ rfl]
theorem s81_ok : CSpecOk E 81 s81 := by
 intro a h cs vals h' he hc
 unfold s81 at he
 split at he <;> simp only [Option.some.injEq, Prod.mk.injEq, reduceCtorEq] at he
 rename_i s rn rt xs kn kt ys
 obtain ⟨rfl, rfl, rfl⟩ := he
 simp only [allT, Bool.and_true, Bool.and_eq_true, decide_eq_true_eq] at hc
 obtain ⟨h1, h2, h3⟩ := hc
 obtain ⟨rs, rfl⟩ := rows_ex h1
 obtain ⟨ks, rfl⟩ := isL_ex h2
 simp only [toRows_rows, decL_enc] at *
 exact f81 s rn rt rs kn kt ks h3
theorem f34 (s : Bys) (rn : OBo) (rt : Bool) (rs : List Row) (kn : OBo) (kt : Bool) (ks : List Nd) (hn : (entL ks).length < 1000000000) :
   call E 34 [.agg [.c (.str s), .c (.sl 5 rn rt (rows rs)), .c (.sl 3 kn kt (encL ks))]] [] = some ([.c (.sl 2 none false (ents (entP (.node s rs ks))))], []) := by
 refine call_of (E := E) (sh := sh) (ct := ctOf [(81, s81)]) (na := 1) (m := 0) (ctOf_cons s81_ok ctOf_nil) rfl rfl rfl rfl rfl rfl ?_
 rw [t34]
 simp only [isL_enc, decL_enc, fd_chk', fd_leaf, decide_true, if_true, isRows_rows, toRows_rows, hn]
def s34 : CSpec := fun a h => match a, h with
 | [.agg [.c (.str s), .c (.sl 5 rn rt xs), .c (.sl 3 kn kt ys)]], [] => some ([isRows xs, isL ys, decide ((entL (decL ys)).length < 1000000000)], [.c (.sl 2 none false (ents (entP (.node s (toRows xs) (decL ys)))))], [])
 | _, _ => none
theorem s34_ok : CSpecOk E 34 s34 := by
 intro a h cs vals h' he hc
 unfold s34 at he
 split at he <;> simp only [Option.some.injEq, Prod.mk.injEq, reduceCtorEq] at he
 rename_i s rn rt xs kn kt ys
 obtain ⟨rfl, rfl, rfl⟩ := he
 simp only [allT, Bool.and_true, Bool.and_eq_true, decide_eq_true_eq] at hc
 obtain ⟨h1, h2, h3⟩ := hc
 obtain ⟨rs, rfl⟩ := rows_ex h1
 obtain ⟨ks, rfl⟩ := isL_ex h2
 simp only [toRows_rows, decL_enc] at *
 exact f34 s rn rt rs kn kt ks h3
end Go.Proofs.YtgaabjmbnomimaaDoor
namespace Go.Proofs.YtgaabjmbnomimaaDoor
open Go Go.Ev
-- cse
def s26 : CSpec := fun a h => match a, h with
 | [.c (.sl 5 nl tt xs), .c (.sl 5 nl2 t2 ys)], [] => some ([isRows xs, isRows ys, decide (xs.length <= 9223372036854775807)], [V.b (decide (toRows xs = toRows ys))], [])
 | _, _ => none
noncomputable abbrev p98 : Par := par E sh (ctOf []) 98 2 0
abbrev s98_0 (nl : OBo) (tt : Bool) (xs : LLC) (nl2 : OBo) (t2 : Bool) (ys : LLC) (i12 : Int) (i13 : Int) : Fr × Hp := ([(0, V.c (C.sl 5 nl tt xs)), (1, V.c (C.sl 5 nl2 t2 ys)), (12, V.c (C.int IntKind.i64 i12)), (13, V.c (C.int IntKind.i64 i13))], [])
noncomputable abbrev b98_0 : Code := loopAt (codeOf E (98)) 0
abbrev x98_0x0 : Ex × Fr × Hp := (Ex.ret, [(4, V.c (C.bool false))], [])
abbrev x98_0x1 (nl : OBo) (tt : Bool) (xs : LLC) (nl2 : OBo) (t2 : Bool) (ys : LLC) (i12 : Int) (i13 : Int) : Ex × Fr × Hp := (Ex.exit 0, [(0, V.c (C.sl 5 nl tt xs)), (1, V.c (C.sl 5 nl2 t2 ys)), (12, V.c (C.int IntKind.i64 i12)), (13, V.c (C.int IntKind.i64 i13)), (14, V.c (C.bool false))], [])
theorem t98_0 (nl : OBo) (tt : Bool) (xs : LLC) (nl2 : OBo) (t2 : Bool) (ys : LLC) (i12 : Int) (i13 : Int) : p98.lts b98_0 (s98_0 nl tt xs nl2 t2 ys i12 i13) = (Tr.br (decide (i13 < i12)) (Tr.chk (decide (0 <= i13)) (Tr.chk true (Tr.chk (decide (i13.toNat < xs.length)) (Tr.chk (shOk [Sk.int IntKind.i64, Sk.int IntKind.i64, Sk.int IntKind.i64, Sk.int IntKind.i64, Sk.str] (xs.getD i13.toNat [])) (Tr.chk (decide (0 <= i13)) (Tr.chk true (Tr.chk (decide (i13.toNat < ys.length)) (Tr.chk (shOk [Sk.int IntKind.i64, Sk.int IntKind.i64, Sk.int IntKind.i64, Sk.int IntKind.i64, Sk.str] (ys.getD i13.toNat [])) (Tr.br (!(((xs.getD i13.toNat []).headD C.pnil).i == ((ys.getD i13.toNat []).headD C.pnil).i && (((xs.getD i13.toNat []).tail.headD C.pnil).i == ((ys.getD i13.toNat []).tail.headD C.pnil).i && (((xs.getD i13.toNat []).tail.tail.headD C.pnil).i == ((ys.getD i13.toNat []).tail.tail.headD C.pnil).i && (((xs.getD i13.toNat []).tail.tail.tail.headD C.pnil).i == ((ys.getD i13.toNat []).tail.tail.tail.headD C.pnil).i && (((xs.getD i13.toNat []).tail.tail.tail.tail.headD C.pnil).st == ((ys.getD i13.toNat []).tail.tail.tail.tail.headD C.pnil).st && true)))))) (Tr.leaf (R.x x98_0x0)) (Tr.leaf (R.s (s98_0 nl tt xs nl2 t2 ys i12 (IntKind.i64.wrap (i13 + 1)))))))))))))) (Tr.leaf (R.x (x98_0x1 nl tt xs nl2 t2 ys i12 i13)))) := by kernel_rfl
theorem k98_0x0 : p98.fkx 0 x98_0x0 = (Tr.leaf (R.out [V.c (C.bool false)] [])) := by kernel_rfl
theorem k98_0x1 (nl : OBo) (tt : Bool) (xs : LLC) (nl2 : OBo) (t2 : Bool) (ys : LLC) (i12 : Int) (i13 : Int) : p98.fkx 0 (x98_0x1 nl tt xs nl2 t2 ys i12 i13) = (Tr.leaf (R.out [V.c (C.bool true)] [])) := by kernel_rfl
theorem t98 (nl : OBo) (tt : Bool) (xs : LLC) (nl2 : OBo) (t2 : Bool) (ys : LLC) : p98.ft ([V.c (C.sl 5 nl tt xs), V.c (C.sl 5 nl2 t2 ys)]) ([]) = (Tr.br ((↑xs.length : Int) != (↑ys.length : Int)) (Tr.leaf (R.out [V.c (C.bool false)] [])) (Tr.ls 0 (s98_0 nl tt xs nl2 t2 ys ((↑xs.length : Int)) (0)))) := by kernel_rfl
mutual
def sameT : Nd -> Nd -> Bool
 | .node a r k, .node b s l => decide (a = b) && decide (r = s) && sameL k l
def sameL : List Nd -> List Nd -> Bool
 | [], [] => true
 | x :: p, y :: q => sameT x y && sameL p q
 | _, _ => false
end
variable (dd : Nat)
def s17 : CSpec := fun a h => match a, h with
 | [.agg [.c (.str s), .c (.sl 5 rn rt xs), .c (.sl 3 kn kt ys)], .agg [.c (.str s2), .c (.sl 5 rn2 rt2 xs2), .c (.sl 3 kn2 kt2 ys2)]], [] => some ([isRows xs, isL ys, isRows xs2, isL ys2, decide (depL (decL ys) < dd), lensT (.node s (toRows xs) (decL ys))], [V.b (sameT (.node s (toRows xs) (decL ys)) (.node s2 (toRows xs2) (decL ys2)))], [])
 | _, _ => none
noncomputable abbrev p17 : Par := par E sh (ctOf [(26, s26), (17, s17 dd)]) 17 2 0
abbrev s17_0 (s : Bys) (rn : OBo) (rt : Bool) (xs : LLC) (kn : OBo) (kt : Bool) (ys : LLC) (s2 : Bys) (rn2 : OBo) (rt2 : Bool) (xs2 : LLC) (kn2 : OBo) (kt2 : Bool) (ys2 : LLC) (i5 : Int) : Fr × Hp := ([(2, V.ptr 0 0 0 0), (3, V.ptr 1 0 0 0), (5, V.c (C.int IntKind.i64 i5))], [O.box [V.c (C.str s), V.c (C.sl 5 rn rt xs), V.c (C.sl 3 kn kt ys)], O.box [V.c (C.str s2), V.c (C.sl 5 rn2 rt2 xs2), V.c (C.sl 3 kn2 kt2 ys2)]])
noncomputable abbrev b17_0 : Code := loopAt (codeOf E (17)) 0
abbrev x17_0x0 (s : Bys) (rn : OBo) (rt : Bool) (xs : LLC) (kn : OBo) (kt : Bool) (ys : LLC) (s2 : Bys) (rn2 : OBo) (rt2 : Bool) (xs2 : LLC) (kn2 : OBo) (kt2 : Bool) (ys2 : LLC) : Ex × Fr × Hp := (Ex.ret, [(4, V.c (C.bool false))], [O.box [V.c (C.str s), V.c (C.sl 5 rn rt xs), V.c (C.sl 3 kn kt ys)], O.box [V.c (C.str s2), V.c (C.sl 5 rn2 rt2 xs2), V.c (C.sl 3 kn2 kt2 ys2)]])
abbrev x17_0x1 (s : Bys) (rn : OBo) (rt : Bool) (xs : LLC) (kn : OBo) (kt : Bool) (ys : LLC) (s2 : Bys) (rn2 : OBo) (rt2 : Bool) (xs2 : LLC) (kn2 : OBo) (kt2 : Bool) (ys2 : LLC) (i5 : Int) : Ex × Fr × Hp := (Ex.exit 0, [(2, V.ptr 0 0 0 0), (3, V.ptr 1 0 0 0), (5, V.c (C.int IntKind.i64 i5)), (32, V.c (C.bool false))], [O.box [V.c (C.str s), V.c (C.sl 5 rn rt xs), V.c (C.sl 3 kn kt ys)], O.box [V.c (C.str s2), V.c (C.sl 5 rn2 rt2 xs2), V.c (C.sl 3 kn2 kt2 ys2)]])
theorem t17_0 (s : Bys) (rn : OBo) (rt : Bool) (xs : LLC) (kn : OBo) (kt : Bool) (ys : LLC) (s2 : Bys) (rn2 : OBo) (rt2 : Bool) (xs2 : LLC) (kn2 : OBo) (kt2 : Bool) (ys2 : LLC) (i5 : Int) : (p17 dd).lts b17_0 (s17_0 s rn rt xs kn kt ys s2 rn2 rt2 xs2 kn2 kt2 ys2 i5) = (Tr.br (decide (i5 < (↑ys.length : Int))) (Tr.chk (decide (0 <= i5)) (Tr.chk true (Tr.chk (decide (i5.toNat < ys.length)) (Tr.chk (shOk [Sk.str, Sk.sl 5, Sk.sl 3] (ys.getD i5.toNat [])) (Tr.chk (decide (0 <= i5)) (Tr.chk true (Tr.chk (decide (i5.toNat < ys2.length)) (Tr.chk (shOk [Sk.str, Sk.sl 5, Sk.sl 3] (ys2.getD i5.toNat [])) (Tr.chk (isRows ((ys.getD i5.toNat []).tail.headD C.pnil).xs) (Tr.chk (isL ((ys.getD i5.toNat []).tail.tail.headD C.pnil).xs) (Tr.chk (isRows ((ys2.getD i5.toNat []).tail.headD C.pnil).xs) (Tr.chk (isL ((ys2.getD i5.toNat []).tail.tail.headD C.pnil).xs) (Tr.chk (decide (depL (decL ((ys.getD i5.toNat []).tail.tail.headD C.pnil).xs) < dd)) (Tr.chk (lensT (Nd.node ((ys.getD i5.toNat []).headD C.pnil).st (toRows ((ys.getD i5.toNat []).tail.headD C.pnil).xs) (decL ((ys.getD i5.toNat []).tail.tail.headD C.pnil).xs))) (Tr.br (!sameT (Nd.node ((ys.getD i5.toNat []).headD C.pnil).st (toRows ((ys.getD i5.toNat []).tail.headD C.pnil).xs) (decL ((ys.getD i5.toNat []).tail.tail.headD C.pnil).xs)) (Nd.node ((ys2.getD i5.toNat []).headD C.pnil).st (toRows ((ys2.getD i5.toNat []).tail.headD C.pnil).xs) (decL ((ys2.getD i5.toNat []).tail.tail.headD C.pnil).xs))) (Tr.leaf (R.x (x17_0x0 s rn rt xs kn kt ys s2 rn2 rt2 xs2 kn2 kt2 ys2))) (Tr.leaf (R.s (s17_0 s rn rt xs kn kt ys s2 rn2 rt2 xs2 kn2 kt2 ys2 (IntKind.i64.wrap (i5 + 1)))))))))))))))))))) (Tr.leaf (R.x (x17_0x1 s rn rt xs kn kt ys s2 rn2 rt2 xs2 kn2 kt2 ys2 i5)))) := by kernel_rfl
theorem k17_0x0 (dd : Nat) (s : Bys) (rn : OBo) (rt : Bool) (xs : LLC) (kn : OBo) (kt : Bool) (ys : LLC) (s2 : Bys) (rn2 : OBo) (rt2 : Bool) (xs2 : LLC) (kn2 : OBo) (kt2 : Bool) (ys2 : LLC) : (p17 dd).fkx 0 (x17_0x0 s rn rt xs kn kt ys s2 rn2 rt2 xs2 kn2 kt2 ys2) = (Tr.leaf (R.out [V.c (C.bool false)] [])) := by kernel_rfl
theorem k17_0x1 (dd : Nat) (s : Bys) (rn : OBo) (rt : Bool) (xs : LLC) (kn : OBo) (kt : Bool) (ys : LLC) (s2 : Bys) (rn2 : OBo) (rt2 : Bool) (xs2 : LLC) (kn2 : OBo) (kt2 : Bool) (ys2 : LLC) (i5 : Int) : (p17 dd).fkx 0 (x17_0x1 s rn rt xs kn kt ys s2 rn2 rt2 xs2 kn2 kt2 ys2 i5) = (Tr.leaf (R.out [V.c (C.bool true)] [])) := by kernel_rfl
theorem t17 (s : Bys) (rn : OBo) (rt : Bool) (xs : LLC) (kn : OBo) (kt : Bool) (ys : LLC) (s2 : Bys) (rn2 : OBo) (rt2 : Bool) (xs2 : LLC) (kn2 : OBo) (kt2 : Bool) (ys2 : LLC) : (p17 dd).ft ([V.agg [V.c (C.str s), V.c (C.sl 5 rn rt xs), V.c (C.sl 3 kn kt ys)], V.agg [V.c (C.str s2), V.c (C.sl 5 rn2 rt2 xs2), V.c (C.sl 3 kn2 kt2 ys2)]]) ([]) = (Tr.br (!s == s2) (Tr.leaf (R.out [V.c (C.bool false)] [])) (Tr.chk (isRows xs) (Tr.chk (isRows xs2) (Tr.chk (decide (xs.length <= 9223372036854775807)) (Tr.br (!decide (toRows xs = toRows xs2)) (Tr.leaf (R.out [V.c (C.bool false)] [])) (Tr.br ((↑ys.length : Int) != (↑ys2.length : Int)) (Tr.leaf (R.out [V.c (C.bool false)] [])) (Tr.ls 0 (s17_0 s rn rt xs kn kt ys s2 rn2 rt2 xs2 kn2 kt2 ys2 (0))))))))) := by kernel_rfl
end Go.Proofs.YtgaabjmbnomimaaDoor
namespace Go.Proofs.YtgaabjmbnomimaaDoor
open Go Go.Ev
theorem s26_ok : CSpecOk E 26 s26 := by
 intro a h cs vals h' he hc
 unfold s26 at he
 split at he <;> simp only [Option.some.injEq, Prod.mk.injEq, reduceCtorEq] at he
 rename_i nl tt xs nl2 t2 ys
 obtain ⟨rfl, rfl, rfl⟩ := he
 simp only [allT, Bool.and_true, Bool.and_eq_true, decide_eq_true_eq] at hc
 obtain ⟨h1, h2, h3⟩ := hc
 obtain ⟨l, rfl⟩ := rows_ex h1
 obtain ⟨m, rfl⟩ := rows_ex h2
 simp only [toRows_rows, rows_length] at *
 exact f26 l m nl tt nl2 t2 h3
theorem f98 (l m : List Row) (nl : OBo) (tt : Bool) (nl2 : OBo) (t2 : Bool) (hl : l.length <= 9223372036854775807) : call E 98 [.c (.sl 5 nl tt (rows l)), .c (.sl 5 nl2 t2 (rows m))] [] = some ([V.b (decide (l = m))], []) := by
 refine call_of (E := E) (sh := sh) (ct := ctOf []) (na := 2) (m := 0) ctOf_nil rfl rfl rfl rfl rfl rfl ?_
 rw [t98]
 simp only [fd_br, fd_leaf, bne_iff_ne, ne_eq, rows_length]
 by_cases h : l.length = m.length
 · have h' : ¬ ¬ (l.length : Int) = m.length := by omega
   rw [if_neg h']
   refine fd_post ctOf_nil (by kernel_rfl) rfl (list_post ctOf_nil (b := b98_0) l.length (fun k (_ : Unit) => s98_0 nl tt (rows l) nl2 t2 (rows m) l.length k) (fun k _ => l.take k = m.take k) _ ?_ ?_ 0 (Nat.zero_le _) () (by rfl))
   · intro k _ hk hi
     have hm : k < m.length := by omega
     rw [t98_0]
     simp only [ld_br, ld_chk', ld_leaf, decide_true, if_true, Int.toNat_natCast, Int.natCast_nonneg, Int.ofNat_lt, ne_eq, Bool.not_eq_true', decide_eq_false_iff_not, rows_length, er_ok', er_a, er_b, er_k, er_n, er_s, hk, hm, rows_getD hk, rows_getD hm, row_eqb, wrap_succ (show k < 9223372036854775807 by omega)]
     by_cases he : l[k] = m[k]
     · left
       exact ⟨(), take_ext hi hk hm he, by simp [he]⟩
     · right
       refine ⟨x98_0x0, by simp, ?_, by simp [he]⟩
       rw [k98_0x0, fd_leaf, decide_eq_false (fun e => he (by subst e; rfl))]
   · intro _ hi
     rw [t98_0]
     refine ⟨x98_0x1 nl tt (rows l) nl2 t2 (rows m) l.length l.length, by simp, ?_, by simp only [ld_br, ld_chk', ld_leaf, decide_true, decide_eq_true_eq, if_true, Int.toNat_natCast, Int.natCast_nonneg, if_false, Bool.not_eq_true', rows_length, Int.lt_irrefl]⟩
     rw [List.take_length, h, List.take_length] at hi
     rw [k98_0x1, fd_leaf, decide_eq_true hi]
 · have h' : ¬ (l.length : Int) = m.length := by omega
   rw [if_pos h', decide_eq_false (fun e => h (by rw [e]))]
def s98 : CSpec := fun a h => match a, h with
 | [.c (.sl 5 nl tt xs), .c (.sl 5 nl2 t2 ys)], [] => some ([isRows xs, isRows ys, decide (xs.length <= 9223372036854775807)], [V.b (decide (toRows xs = toRows ys))], [])
 | _, _ => none
theorem s98_ok : CSpecOk E 98 s98 := by
 intro a h cs vals h' he hc
 unfold s98 at he
 split at he <;> simp only [Option.some.injEq, Prod.mk.injEq, reduceCtorEq] at he
 rename_i nl tt xs nl2 t2 ys
 obtain ⟨rfl, rfl, rfl⟩ := he
 simp only [allT, Bool.and_true, Bool.and_eq_true, decide_eq_true_eq] at hc
 obtain ⟨h1, h2, h3⟩ := hc
 obtain ⟨l, rfl⟩ := rows_ex h1
 obtain ⟨m, rfl⟩ := rows_ex h2
 simp only [toRows_rows, rows_length] at *
 exact f98 l m nl tt nl2 t2 h3
mutual
theorem sameT_iff : ∀ (a b : Nd), sameT a b = true ↔ a = b
 | .node a r k, .node b s l => by
   rw [sameT]
   simp only [Bool.and_eq_true, decide_eq_true_eq, sameL_iff k l, Nd.node.injEq, and_assoc]
theorem sameL_iff : ∀ (a b : List Nd), sameL a b = true ↔ a = b
 | [], [] => by simp [sameL]
 | x :: p, y :: q => by simp only [sameL, Bool.and_eq_true, sameT_iff x y, sameL_iff p q, List.cons.injEq]
 | [], _ :: _ => by simp [sameL]
 | _ :: _, [] => by simp [sameL]
end
theorem sameT_refl (a : Nd) : sameT a a = true := (sameT_iff a a).2 rfl
theorem sameT_dec (a b : Nd) : sameT a b = false ↔ a ≠ b := by rw [<- Bool.not_eq_true, sameT_iff]
theorem sameL_ne {a b : List Nd} (h : a ≠ b) : sameL a b = false := by rw [<- Bool.not_eq_true, sameL_iff]; exact h
theorem f17 (dd : Nat) (ih : CSpecOk E 17 (s17 dd)) (t t2 : Nd) (rn : OBo) (rt : Bool) (kn : OBo) (kt : Bool) (rn2 : OBo) (rt2 : Bool) (kn2 : OBo) (kt2 : Bool) (hd : depL t.kids < dd + 1) (hl : lensT t = true) :
   call E 17 [.agg [.c (.str t.lab), .c (.sl 5 rn rt (rows t.rows)), .c (.sl 3 kn kt (encL t.kids))], .agg [.c (.str t2.lab), .c (.sl 5 rn2 rt2 (rows t2.rows)), .c (.sl 3 kn2 kt2 (encL t2.kids))]] [] = some ([V.b (sameT t t2)], []) := by
 have hct : (ctOf [(26, s26), (17, s17 dd)]).ok E := ctOf_cons s26_ok (ctOf_cons ih ctOf_nil)
 refine call_of (E := E) (sh := sh) (ct := ctOf [(26, s26), (17, s17 dd)]) (na := 2) (m := 0) hct rfl rfl rfl rfl rfl rfl ?_
 show (p17 dd).fd ((p17 dd).ft _ _) = _
 obtain ⟨s, rs, ks⟩ := t
 obtain ⟨s2, rs2, ks2⟩ := t2
 rw [lensT] at hl
 simp only [Nd.lab_node, Nd.rows_node, Nd.kids_node, Bool.and_eq_true, decide_eq_true_eq] at hd hl ⊢
 obtain ⟨⟨⟨l1, l2⟩, l3⟩, l4⟩ := hl
 rw [t17, sameT]
 have e1 : (!s == s2) = !decide (s = s2) := by rw [beqL]
 simp only [encL_length, fd_br, fd_chk', fd_leaf, decide_true, if_true, bne_iff_ne, ne_eq, Bool.not_eq_true', decide_eq_false_iff_not, rows_length, isRows_rows, toRows_rows, e1, l2]
 by_cases c1 : s = s2
 case neg => simp [c1]
 by_cases c2 : rs = rs2
 case neg => simp [c1, c2]
 by_cases c3 : ks.length = ks2.length
 case neg =>
   have : ks ≠ ks2 := fun e => c3 (by rw [e])
   rw [sameL_ne this]
   simp [c1, c2, show ¬ (ks.length : Int) = ks2.length by omega]
 subst c1; subst c2
 have c3' : (ks.length : Int) = ks2.length := by omega
 simp only [c3', decide_true, if_false, Bool.true_and, not_true_eq_false]
 refine fd_post hct (by kernel_rfl) rfl (list_post (p := p17 dd) hct (b := b17_0) ks.length (fun k (_ : Unit) => s17_0 s rn rt (rows rs) kn kt (encL ks) s rn2 rt2 (rows rs) kn2 kt2 (encL ks2) k) (fun k _ => ks.take k = ks2.take k) _ ?_ ?_ 0 (Nat.zero_le _) () (by simp))
 · intro k _ hk hi
   have hm : k < ks2.length := by omega
   have hkid : depL ks[k].kids < dd := by have := depL_kid (List.getElem_mem hk); omega
   rw [t17_0]
   simp only [nd_ok, nd_lab, nd_rows, nd_kids, encL_length, isL_enc, decL_enc, ld_br, ld_chk', ld_leaf, decide_true, if_true, Int.toNat_natCast, Int.natCast_nonneg, Int.ofNat_lt, ne_eq, Bool.not_eq_true', isRows_rows, toRows_rows, hk, hm, encL_getD hk, encL_getD hm, nd_node, hkid, lensL_mem l4 (List.getElem_mem hk), wrap_succ (show k < 9223372036854775807 by omega)]
   by_cases he : ks[k] = ks2[k]
   · left
     refine ⟨(), take_ext hi hk hm he, ?_⟩
     rw [(sameT_iff _ _).2 he]; rfl
   · right
     refine ⟨x17_0x0 s rn rt (rows rs) kn kt (encL ks) s rn2 rt2 (rows rs) kn2 kt2 (encL ks2), by simp, ?_, by rw [(sameT_dec _ _).2 he]; rfl⟩
     rw [k17_0x0, fd_leaf, sameL_ne (fun e => he (by subst e; rfl))]
 · intro _ hi
   rw [t17_0]
   refine ⟨x17_0x1 s rn rt (rows rs) kn kt (encL ks) s rn2 rt2 (rows rs) kn2 kt2 (encL ks2) ks.length, by simp, ?_, by simp only [encL_length, ld_br, ld_chk', ld_leaf, decide_true, decide_eq_true_eq, if_true, Int.toNat_natCast, Int.natCast_nonneg, if_false, Bool.not_eq_true', Int.lt_irrefl]⟩
   rw [List.take_length, c3, List.take_length] at hi
   rw [k17_0x1, fd_leaf, (sameL_iff _ _).2 hi]
theorem s17_ok : ∀ d, CSpecOk E 17 (s17 d)
 | 0 => by
   intro a h cs vals h' he hc
   unfold s17 at he
   split at he <;> simp only [Option.some.injEq, Prod.mk.injEq, reduceCtorEq] at he
   obtain ⟨rfl, rfl, rfl⟩ := he
   simp [allT] at hc
 | d + 1 => by
   intro a h cs vals h' he hc
   unfold s17 at he
   split at he <;> simp only [Option.some.injEq, Prod.mk.injEq, reduceCtorEq] at he
   rename_i s rn rt xs kn kt ys s2 rn2 rt2 xs2 kn2 kt2 ys2
   obtain ⟨rfl, rfl, rfl⟩ := he
   simp only [allT, Bool.and_true, Bool.and_eq_true, decide_eq_true_eq] at hc
   obtain ⟨h1, h2, h3, h4, h5, h6⟩ := hc
   obtain ⟨rs, rfl⟩ := rows_ex h1
   obtain ⟨ks, rfl⟩ := isL_ex h2
   obtain ⟨rs2, rfl⟩ := rows_ex h3
   obtain ⟨ks2, rfl⟩ := isL_ex h4
   simp only [toRows_rows, decL_enc] at *
   exact f17 d (s17_ok d) (.node s rs ks) (.node s2 rs2 ks2) rn rt kn kt rn2 rt2 kn2 kt2 h5 h6
def s17n : CSpec := fun a h => match a, h with
 | [.agg [.c (.str s), .c (.sl 5 rn rt xs), .c (.sl 3 kn kt ys)], .agg [.c (.str s2), .c (.sl 5 rn2 rt2 xs2), .c (.sl 3 kn2 kt2 ys2)]], [] => some ([isRows xs, isL ys, isRows xs2, isL ys2, lensT (.node s (toRows xs) (decL ys))], [V.b (sameT (.node s (toRows xs) (decL ys)) (.node s2 (toRows xs2) (decL ys2)))], [])
 | _, _ => none
theorem s17n_ok : CSpecOk E 17 s17n := by
 intro a h cs vals h' he hc
 unfold s17n at he
 split at he <;> simp only [Option.some.injEq, Prod.mk.injEq, reduceCtorEq] at he
 rename_i s rn rt xs kn kt ys s2 rn2 rt2 xs2 kn2 kt2 ys2
 obtain ⟨rfl, rfl, rfl⟩ := he
 simp only [allT, Bool.and_true, Bool.and_eq_true] at hc
 obtain ⟨h1, h2, h3, h4, h6⟩ := hc
 obtain ⟨rs, rfl⟩ := rows_ex h1
 obtain ⟨ks, rfl⟩ := isL_ex h2
 obtain ⟨rs2, rfl⟩ := rows_ex h3
 obtain ⟨ks2, rfl⟩ := isL_ex h4
 simp only [toRows_rows, decL_enc] at *
 exact f17 (depL ks) (s17_ok _) (.node s rs ks) (.node s2 rs2 ks2) rn rt kn kt rn2 rt2 kn2 kt2 (Nat.lt_succ_self _) h6
mutual
theorem okT_lens : ∀ (t : Nd) (n : Nat), n <= 24 -> okT t n = true -> lensT t = true
 | .node s rs ks, n, hn, h => by
   obtain ⟨g1, g2, g3, g4, g5⟩ := okT_iff.1 h
   simp only [Nd.lab_node, Nd.rows_node, Nd.kids_node] at g1 g2 g3 g4 g5
   have h1 := right_len4 g3
   have h2 := okL_len (okL_iff'.2 g5) (by omega)
   rw [lensT, kidsOk_lens ks _ (by omega) g5]
   simp only [Bool.and_true, Bool.and_eq_true, decide_eq_true_eq]
   omega
theorem kidsOk_lens : ∀ (l : List Nd) (n : Nat), n <= 24 -> kidsOk l n -> lensL l = true
 | [], _, _, _ => rfl
 | t :: r, n, hn, h => by
   rw [lensL, okT_lens t n hn (h.1 t (by simp)), kidsOk_lens r n hn (kidsOk_sub h (List.sublist_cons_self _ _))]; rfl
end
theorem okR_lens {t : Nd} (h : okR t = true) : lensT t = true := by
 obtain ⟨h1, h2, h3⟩ := okR_iff.1 h
 have h4 := okL_len (okL_iff'.2 h3) (by omega)
 rw [lensT_eq, h1, h2, kidsOk_lens _ 24 (Nat.le_refl _) h3]
 simp; omega
end Go.Proofs.YtgaabjmbnomimaaDoor
namespace Go.Proofs.YtgaabjmbnomimaaDoor
open Go Go.Ev
-- cse
noncomputable abbrev p138 : Par := par E sh (ctOf [(98, s98)]) 138 3 1
theorem t138a (p : Bys) (n0 : OBo) (t0 : Bool) (x0 : LLC) (n1 : OBo) (t1 : Bool) (x1 : LLC) (n2 : OBo) (t2 : Bool) (x2 : LLC) : p138.ft ([V.i 1, V.i 2, V.ptr 0 0 0 0]) ([O.box [V.c (C.str p), V.c (C.sl 5 n0 t0 x0), V.c (C.sl 5 n1 t1 x1), V.c (C.sl 5 n2 t2 x2)]]) = (Tr.chk true (Tr.chk true (Tr.chk true (Tr.chk true (Tr.chk (isRows x1) (Tr.chk (isRows x2) (Tr.chk (decide (x1.length <= 9223372036854775807)) (Tr.leaf (R.out [V.c (C.bool (decide (toRows x1 = toRows x2)))] [O.box [V.c (C.str p), V.c (C.sl 5 n0 t0 x0), V.c (C.sl 5 n1 t1 x1), V.c (C.sl 5 n2 t2 x2)]]))))))))) := by kernel_rfl
theorem t138b (p : Bys) (n0 : OBo) (t0 : Bool) (x0 : LLC) (n1 : OBo) (t1 : Bool) (x1 : LLC) (n2 : OBo) (t2 : Bool) (x2 : LLC) : p138.ft ([V.i 0, V.i 2, V.ptr 0 0 0 0]) ([O.box [V.c (C.str p), V.c (C.sl 5 n0 t0 x0), V.c (C.sl 5 n1 t1 x1), V.c (C.sl 5 n2 t2 x2)]]) = (Tr.chk true (Tr.chk true (Tr.chk true (Tr.chk true (Tr.chk (isRows x0) (Tr.chk (isRows x2) (Tr.chk (decide (x0.length <= 9223372036854775807)) (Tr.leaf (R.out [V.c (C.bool (decide (toRows x0 = toRows x2)))] [O.box [V.c (C.str p), V.c (C.sl 5 n0 t0 x0), V.c (C.sl 5 n1 t1 x1), V.c (C.sl 5 n2 t2 x2)]]))))))))) := by kernel_rfl
theorem t138c (p : Bys) (n0 : OBo) (t0 : Bool) (x0 : LLC) (n1 : OBo) (t1 : Bool) (x1 : LLC) (n2 : OBo) (t2 : Bool) (x2 : LLC) : p138.ft ([V.i 0, V.i 1, V.ptr 0 0 0 0]) ([O.box [V.c (C.str p), V.c (C.sl 5 n0 t0 x0), V.c (C.sl 5 n1 t1 x1), V.c (C.sl 5 n2 t2 x2)]]) = (Tr.chk true (Tr.chk true (Tr.chk true (Tr.chk true (Tr.chk (isRows x0) (Tr.chk (isRows x1) (Tr.chk (decide (x0.length <= 9223372036854775807)) (Tr.leaf (R.out [V.c (C.bool (decide (toRows x0 = toRows x1)))] [O.box [V.c (C.str p), V.c (C.sl 5 n0 t0 x0), V.c (C.sl 5 n1 t1 x1), V.c (C.sl 5 n2 t2 x2)]]))))))))) := by kernel_rfl
def pick3 (i : Int) (a b c : LLC) : List (List C) := if i = 0 then a else if i = 1 then b else c
def s138 : CSpec := fun a h => match a, h with
 | [.c (.int .i64 i), .c (.int .i64 k), .ptr 0 0 0 0], [.box [.c (.str p), .c (.sl 5 n0 t0 x0), .c (.sl 5 n1 t1 x1), .c (.sl 5 n2 t2 x2)]] => some ([decide ((i = 1 /\ k = 2) \/ (i = 0 /\ k = 2) \/ (i = 0 /\ k = 1)), isRows x0, isRows x1, isRows x2, decide (x0.length <= 9223372036854775807), decide (x1.length <= 9223372036854775807)], [V.b (decide (toRows (pick3 i x0 x1 x2) = toRows (pick3 k x0 x1 x2)))], [.box [.c (.str p), .c (.sl 5 n0 t0 x0), .c (.sl 5 n1 t1 x1), .c (.sl 5 n2 t2 x2)]])
 | _, _ => none
noncomputable abbrev p95 : Par := par E sh (ctOf [(138, s138)]) 95 1 0
theorem t95 (p : Bys) (n0 : OBo) (t0 : Bool) (x0 : LLC) (n1 : OBo) (t1 : Bool) (x1 : LLC) (n2 : OBo) (t2 : Bool) (x2 : LLC) : p95.ft ([V.agg [V.c (C.str p), V.c (C.sl 5 n0 t0 x0), V.c (C.sl 5 n1 t1 x1), V.c (C.sl 5 n2 t2 x2)]]) ([]) = (Tr.chk true (Tr.chk (isRows x0) (Tr.chk (isRows x1) (Tr.chk (isRows x2) (Tr.chk (decide (x0.length <= 9223372036854775807)) (Tr.chk (decide (x1.length <= 9223372036854775807)) (Tr.br (decide (toRows (pick3 1 x0 x1 x2) = toRows (pick3 2 x0 x1 x2))) (Tr.chk true (Tr.chk true (Tr.leaf (R.out [V.c (C.sl 5 none false x1), V.c (C.bool true)] [])))) (Tr.chk true (Tr.chk (isRows x0) (Tr.chk (isRows x1) (Tr.chk (isRows x2) (Tr.chk (decide (x0.length <= 9223372036854775807)) (Tr.chk (decide (x1.length <= 9223372036854775807)) (Tr.br (decide (toRows (pick3 0 x0 x1 x2) = toRows (pick3 2 x0 x1 x2))) (Tr.chk true (Tr.chk true (Tr.leaf (R.out [V.c (C.sl 5 none false x1), V.c (C.bool true)] [])))) (Tr.chk true (Tr.chk (isRows x0) (Tr.chk (isRows x1) (Tr.chk (isRows x2) (Tr.chk (decide (x0.length <= 9223372036854775807)) (Tr.chk (decide (x1.length <= 9223372036854775807)) (Tr.br (decide (toRows (pick3 0 x0 x1 x2) = toRows (pick3 1 x0 x1 x2))) (Tr.chk true (Tr.chk true (Tr.leaf (R.out [V.c (C.sl 5 none false x2), V.c (C.bool true)] [])))) (Tr.leaf (R.out [V.c (C.sl 5 none false []), V.c (C.bool false)] []))))))))))))))))))))))) := by kernel_rfl
noncomputable abbrev p136 : Par := par E sh (ctOf [(28, s28)]) 136 1 0
theorem t136 (s : Bys) (rn : OBo) (rt : Bool) (xs : LLC) (kn : OBo) (kt : Bool) (ys : LLC) : p136.ft ([V.agg [V.c (C.str s), V.c (C.sl 5 rn rt xs), V.c (C.sl 3 kn kt ys)]]) ([]) = (Tr.chk (isRows xs) (Tr.chk (isL ys) (Tr.leaf (R.out [V.c (C.bool (checkT (Nd.node s (toRows xs) (decL ys)) != 0))] [])))) := by kernel_rfl
def s136 : CSpec := fun a h => match a, h with
 | [.agg [.c (.str s), .c (.sl 5 rn rt xs), .c (.sl 3 kn kt ys)]], [] => some ([isRows xs, isL ys], [V.b (!okR (.node s (toRows xs) (decL ys)))], [])
 | _, _ => none
noncomputable abbrev p142 : Par := par E sh (ctOf [(136, s136)]) 142 2 0
abbrev s142_0 (nl : OBo) (tt : Bool) (ys : LLC) (i7 : Int) (i8 : Int) : Fr × Hp := ([(0, V.c (C.sl 3 nl tt ys)), (1, V.fn 136 []), (7, V.c (C.int IntKind.i64 i7)), (8, V.c (C.int IntKind.i64 i8))], [])
noncomputable abbrev b142_0 : Code := loopAt (codeOf E (142)) 0
abbrev x142_0x0 (i8 : Int) : Ex × Fr × Hp := (Ex.ret, [(4, V.c (C.int IntKind.i64 i8))], [])
abbrev x142_0x1 (nl : OBo) (tt : Bool) (ys : LLC) (i7 : Int) (i8 : Int) : Ex × Fr × Hp := (Ex.exit 0, [(0, V.c (C.sl 3 nl tt ys)), (1, V.fn 136 []), (7, V.c (C.int IntKind.i64 i7)), (8, V.c (C.int IntKind.i64 i8)), (9, V.c (C.bool false))], [])
theorem t142_0 (nl : OBo) (tt : Bool) (ys : LLC) (i7 : Int) (i8 : Int) : p142.lts b142_0 (s142_0 nl tt ys i7 i8) = (Tr.br (decide (i8 < i7)) (Tr.chk (decide (0 <= i8)) (Tr.chk true (Tr.chk (decide (i8.toNat < ys.length)) (Tr.chk (shOk [Sk.str, Sk.sl 5, Sk.sl 3] (ys.getD i8.toNat [])) (Tr.chk (isRows ((ys.getD i8.toNat []).tail.headD C.pnil).xs) (Tr.chk (isL ((ys.getD i8.toNat []).tail.tail.headD C.pnil).xs) (Tr.br (!okR (Nd.node ((ys.getD i8.toNat []).headD C.pnil).st (toRows ((ys.getD i8.toNat []).tail.headD C.pnil).xs) (decL ((ys.getD i8.toNat []).tail.tail.headD C.pnil).xs))) (Tr.leaf (R.x (x142_0x0 i8))) (Tr.leaf (R.s (s142_0 nl tt ys i7 (IntKind.i64.wrap (i8 + 1)))))))))))) (Tr.leaf (R.x (x142_0x1 nl tt ys i7 i8)))) := by kernel_rfl
theorem k142_0x0 (i8 : Int) : p142.fkx 0 (x142_0x0 i8) = (Tr.leaf (R.out [V.c (C.int IntKind.i64 i8)] [])) := by kernel_rfl
theorem k142_0x1 (nl : OBo) (tt : Bool) (ys : LLC) (i7 : Int) (i8 : Int) : p142.fkx 0 (x142_0x1 nl tt ys i7 i8) = (Tr.leaf (R.out [V.c (C.int IntKind.i64 (-1))] [])) := by kernel_rfl
theorem t142 (nl : OBo) (tt : Bool) (ys : LLC) : p142.ft ([V.c (C.sl 3 nl tt ys), V.fn 136 []]) ([]) = (Tr.ls 0 (s142_0 nl tt ys ((↑ys.length : Int)) (0))) := by kernel_rfl
def idxT (f : Nd -> Bool) : List Nd -> Nat -> Int
 | [], _ => -1
 | t :: r, k => if f t = true then k else idxT f r (k + 1)
def s142 : CSpec := fun a h => match a, h with
 | [.c (.sl 3 nl tt ys), .fn 136 []], [] => some ([isL ys, decide (ys.length <= 9223372036854775807)], [V.i (idxT (fun t => !okR t) (decL ys) 0)], [])
 | _, _ => none
noncomputable abbrev p104 : Par := par E sh (ctOf [(142, s142)]) 104 2 0
theorem t104 (nl : OBo) (tt : Bool) (ys : LLC) : p104.ft ([V.c (C.sl 3 nl tt ys), V.fn 136 []]) ([]) = (Tr.chk (isL ys) (Tr.chk (decide (ys.length <= 9223372036854775807)) (Tr.leaf (R.out [V.c (C.bool (decide (0 <= idxT (fun (t : Nd) => !okR t) (decL ys) 0)))] [])))) := by kernel_rfl
def s104 : CSpec := fun a h => match a, h with
 | [.c (.sl 3 nl tt ys), .fn 136 []], [] => some ([isL ys, decide (ys.length <= 9223372036854775807)], [V.b (!(decL ys).all okR)], [])
 | _, _ => none
noncomputable abbrev p93 : Par := par E sh (ctOf [(104, s104)]) 93 1 0
theorem t93 (nl : OBo) (tt : Bool) (ys : LLC) : p93.ft ([V.c (C.sl 3 nl tt ys)]) ([]) = (Tr.chk (isL ys) (Tr.chk (decide (ys.length <= 9223372036854775807)) (Tr.leaf (R.out [V.c (C.bool !!(decL ys).all okR)] [])))) := by kernel_rfl
noncomputable abbrev p94 : Par := par E sh (ctOf []) 94 1 0
theorem t94 (nl : OBo) (tt : Bool) (ys : LLC) : p94.ft ([V.c (C.sl 3 nl tt ys)]) ([]) = (Tr.leaf (R.out [V.fn 137 [V.ptr 0 0 0 0]] [O.box [V.c (C.sl 3 nl tt ys)]])) := by kernel_rfl
end Go.Proofs.YtgaabjmbnomimaaDoor
namespace Go.Proofs.YtgaabjmbnomimaaDoor
open Go Go.Ev
-- cse
noncomputable abbrev p137 : Par := par E sh (ctOf [(34, s34)]) 137 2 2
noncomputable abbrev bU137 : Code := loopAt (codeOf E (137)) 1
noncomputable abbrev bA137 : Code := loopAt (loopAt (codeOf E (137)) 1) 0
noncomputable abbrev bB137 : Code := loopAt (loopAt (codeOf E (137)) 1) 1
abbrev u137 (kn : OBo) (kt : Bool) (xsh : LLC) (r : List (List V)) (q : Bool) (n0 : OBo) (t0 : Bool) (x0 : LLC) (n1 : OBo) (t1 : Bool) (x1 : LLC) (n2 : OBo) (t2 : Bool) (x2 : LLC) : Fr × Hp := ([(0, V.yl 1), (3, V.ptr 2 0 0 0)], [O.box [V.c (C.sl 3 kn kt xsh)], O.yo r q, O.mem 1 0 [[C.sl 2 n0 t0 x0], [C.sl 2 n1 t1 x1], [C.sl 2 n2 t2 x2]]])
abbrev sA137 (kn : OBo) (kt : Bool) (xsh : LLC) (r : List (List V)) (q : Bool) (n0 : OBo) (t0 : Bool) (x0 : LLC) (n1 : OBo) (t1 : Bool) (x1 : LLC) (n2 : OBo) (t2 : Bool) (x2 : LLC) (p : Bys) (i : Int) : Fr × Hp := ([(0, V.yl 1), (3, V.ptr 2 0 0 0), (6, V.ptr 3 0 0 0), (24, V.agg [V.c (C.sl 2 n0 t0 x0), V.c (C.sl 2 n1 t1 x1), V.c (C.sl 2 n2 t2 x2)]), (25, V.i i)], [O.box [V.c (C.sl 3 kn kt xsh)], O.yo r q, O.mem 1 0 [[C.sl 2 n0 t0 x0], [C.sl 2 n1 t1 x1], [C.sl 2 n2 t2 x2]], O.box [V.c (C.str p), V.c (C.sl 5 (some true) true []), V.c (C.sl 5 (some true) true []), V.c (C.sl 5 (some true) true [])]])
abbrev xA137 (kn : OBo) (kt : Bool) (xsh : LLC) (r : List (List V)) (q : Bool) (n0 : OBo) (t0 : Bool) (x0 : LLC) (n1 : OBo) (t1 : Bool) (x1 : LLC) (n2 : OBo) (t2 : Bool) (x2 : LLC) (p : Bys) : Ex × Fr × Hp := (Ex.exit 4, [(0, V.yl 1), (3, V.ptr 2 0 0 0), (6, V.ptr 3 0 0 0), (24, V.agg [V.c (C.sl 2 n0 t0 x0), V.c (C.sl 2 n1 t1 x1), V.c (C.sl 2 n2 t2 x2)]), (25, V.i 3), (26, V.b false)], [O.box [V.c (C.sl 3 kn kt xsh)], O.yo r q, O.mem 1 0 [[C.sl 2 n0 t0 x0], [C.sl 2 n1 t1 x1], [C.sl 2 n2 t2 x2]], O.box [V.c (C.str p), V.c (C.sl 5 (some true) true []), V.c (C.sl 5 (some true) true []), V.c (C.sl 5 (some true) true [])]])
abbrev sB137 (kn : OBo) (kt : Bool) (xsh : LLC) (r : List (List V)) (q : Bool) (n0 : OBo) (t0 : Bool) (x0 : LLC) (n1 : OBo) (t1 : Bool) (x1 : LLC) (n2 : OBo) (t2 : Bool) (x2 : LLC) (a0 : OBo) (b0 : Bool) (y0 : LLC) (a1 : OBo) (b1 : Bool) (y1 : LLC) (a2 : OBo) (b2 : Bool) (y2 : LLC) (p : Bys) (c0 : OBo) (d0 : Bool) (z0 : LLC) (c1 : OBo) (d1 : Bool) (z1 : LLC) (c2 : OBo) (d2 : Bool) (z2 : LLC) (i : Int) : Fr × Hp := ([(0, V.yl 1), (3, V.ptr 2 0 0 0), (6, V.ptr 3 0 0 0), (54, V.agg [V.c (C.sl 2 n0 t0 x0), V.c (C.sl 2 n1 t1 x1), V.c (C.sl 2 n2 t2 x2)]), (55, V.i i)], [O.box [V.c (C.sl 3 kn kt xsh)], O.yo r q, O.mem 1 0 [[C.sl 2 a0 b0 y0], [C.sl 2 a1 b1 y1], [C.sl 2 a2 b2 y2]], O.box [V.c (C.str p), V.c (C.sl 5 c0 d0 z0), V.c (C.sl 5 c1 d1 z1), V.c (C.sl 5 c2 d2 z2)]])
abbrev xB137 (kn : OBo) (kt : Bool) (xsh : LLC) (r : List (List V)) (q : Bool) (n0 : OBo) (t0 : Bool) (x0 : LLC) (n1 : OBo) (t1 : Bool) (x1 : LLC) (n2 : OBo) (t2 : Bool) (x2 : LLC) (a0 : OBo) (b0 : Bool) (y0 : LLC) (a1 : OBo) (b1 : Bool) (y1 : LLC) (a2 : OBo) (b2 : Bool) (y2 : LLC) (p : Bys) (c0 : OBo) (d0 : Bool) (z0 : LLC) (c1 : OBo) (d1 : Bool) (z1 : LLC) (c2 : OBo) (d2 : Bool) (z2 : LLC) : Ex × Fr × Hp := (Ex.exit 6, [(0, V.yl 1), (3, V.ptr 2 0 0 0), (6, V.ptr 3 0 0 0), (54, V.agg [V.c (C.sl 2 n0 t0 x0), V.c (C.sl 2 n1 t1 x1), V.c (C.sl 2 n2 t2 x2)]), (55, V.i 3), (56, V.b false)], [O.box [V.c (C.sl 3 kn kt xsh)], O.yo r q, O.mem 1 0 [[C.sl 2 a0 b0 y0], [C.sl 2 a1 b1 y1], [C.sl 2 a2 b2 y2]], O.box [V.c (C.str p), V.c (C.sl 5 c0 d0 z0), V.c (C.sl 5 c1 d1 z1), V.c (C.sl 5 c2 d2 z2)]])
abbrev xE137 (kn : OBo) (kt : Bool) (xsh : LLC) (r : List (List V)) (q : Bool) (n0 : OBo) (t0 : Bool) (x0 : LLC) (n1 : OBo) (t1 : Bool) (x1 : LLC) (n2 : OBo) (t2 : Bool) (x2 : LLC) (p : Bys) : Ex × Fr × Hp := (Ex.ret, [(0, V.yl 1), (3, V.ptr 2 0 0 0), (6, V.ptr 3 0 0 0), (53, V.b true)], [O.box [V.c (C.sl 3 kn kt xsh)], O.yo r q, O.mem 1 0 [[C.sl 2 n0 t0 x0], [C.sl 2 n1 t1 x1], [C.sl 2 n2 t2 x2]], O.box [V.c (C.str p), V.c (C.sl 5 (some true) true []), V.c (C.sl 5 (some true) true []), V.c (C.sl 5 (some true) true [])]])
abbrev s137_0 (kn : OBo) (kt : Bool) (r : List (List V)) (q : Bool) (xs11 : LLC) (i12 : Int) (i13 : Int) (xsh0 : LLC) (ys2 : LLC) : Fr × Hp := ([(0, V.yl 1), (3, V.ptr 2 0 0 0), (11, V.c (C.sl 3 kn kt xs11)), (12, V.c (C.int IntKind.i64 i12)), (13, V.c (C.int IntKind.i64 i13))], [O.box [V.c (C.sl 3 kn kt xsh0)], O.yo r q, O.mem 1 0 ys2])
noncomputable abbrev b137_0 : Code := loopAt (codeOf E (137)) 0
abbrev x137_0x0 (kn : OBo) (kt : Bool) (r : List (List V)) (q : Bool) (xs11 : LLC) (i12 : Int) (i13 : Int) (xsh0 : LLC) (ys2 : LLC) : Ex × Fr × Hp := (Ex.exit 0, [(0, V.yl 1), (3, V.ptr 2 0 0 0), (11, V.c (C.sl 3 kn kt xs11)), (12, V.c (C.int IntKind.i64 i12)), (13, V.c (C.int IntKind.i64 i13)), (14, V.c (C.bool false))], [O.box [V.c (C.sl 3 kn kt xsh0)], O.yo r q, O.mem 1 0 ys2])
abbrev s137_1 (kn : OBo) (kt : Bool) (r : List (List V)) (q : Bool) (xsh0 : LLC) (ys2 : LLC) : Fr × Hp := ([(0, V.yl 1), (3, V.ptr 2 0 0 0)], [O.box [V.c (C.sl 3 kn kt xsh0)], O.yo r q, O.mem 1 0 ys2])
theorem t137_0 (kn : OBo) (kt : Bool) (r : List (List V)) (q : Bool) (xs11 : LLC) (i12 : Int) (i13 : Int) (xsh0 : LLC) (ys2 : LLC) : p137.lts b137_0 (s137_0 kn kt r q xs11 i12 i13 xsh0 ys2) = (Tr.br (decide (i13 < i12)) (Tr.chk (decide (0 <= i13)) (Tr.chk true (Tr.chk (decide (i13.toNat < xs11.length)) (Tr.chk (shOk [Sk.str, Sk.sl 5, Sk.sl 3] (xs11.getD i13.toNat [])) (Tr.chk (isRows ((xs11.getD i13.toNat []).tail.headD C.pnil).xs) (Tr.chk (isL ((xs11.getD i13.toNat []).tail.tail.headD C.pnil).xs) (Tr.chk (decide ((entL (decL ((xs11.getD i13.toNat []).tail.tail.headD C.pnil).xs)).length < 1000000000)) (Tr.chk (decide (0 <= i13)) (Tr.chk (decide (i13 < (↑3 : Int))) (Tr.chk true (Tr.chk true (Tr.chk true (Tr.chk true (Tr.chk (decide (i13.toNat < ys2.length)) (Tr.chk true (Tr.chk (decide ((ys2.getD i13.toNat []).length = 1)) (Tr.leaf (R.s (s137_0 kn kt r q xs11 i12 (IntKind.i64.wrap (i13 + 1)) xsh0 (ys2.set i13.toNat [C.sl 2 none false (ents (entP (Nd.node ((xs11.getD i13.toNat []).headD C.pnil).st (toRows ((xs11.getD i13.toNat []).tail.headD C.pnil).xs) (decL ((xs11.getD i13.toNat []).tail.tail.headD C.pnil).xs))))])))))))))))))))))))) (Tr.leaf (R.x (x137_0x0 kn kt r q xs11 i12 i13 xsh0 ys2)))) := by kernel_rfl
theorem k137_0x0 (kn : OBo) (kt : Bool) (r : List (List V)) (q : Bool) (xs11 : LLC) (i12 : Int) (i13 : Int) (xsh0 : LLC) (ys2 : LLC) : p137.fkx 0 (x137_0x0 kn kt r q xs11 i12 i13 xsh0 ys2) = (Tr.ls 1 (s137_1 kn kt r q xsh0 ys2)) := by kernel_rfl
theorem t137 (kn : OBo) (kt : Bool) (a : List C) (b : List C) (c : List C) (r : List (List V)) (q : Bool) : p137.ft ([V.yl 1, V.ptr 0 0 0 0]) ([O.box [V.c (C.sl 3 kn kt [a, b, c])], O.yo r q]) = (Tr.ls 0 (s137_0 kn kt r q ([a, b, c]) (3) (0) ([a, b, c]) ([[C.sl 2 (some true) true []], [C.sl 2 (some true) true []], [C.sl 2 (some true) true []]]))) := by kernel_rfl
theorem t137u (kn : OBo) (kt : Bool) (xsh : LLC) (r : List (List V)) (q : Bool) (n0 : OBo) (t0 : Bool) (x0 : LLC) (n1 : OBo) (t1 : Bool) (x1 : LLC) (n2 : OBo) (t2 : Bool) (x2 : LLC) : p137.lts bU137 (u137 kn kt xsh r q n0 t0 x0 n1 t1 x1 n2 t2 x2) = Tr.ls 0 (sA137 kn kt xsh r q n0 t0 x0 n1 t1 x1 n2 t2 x2 [] 0) := by kernel_rfl
abbrev x137A0x0 (kn : OBo) (kt : Bool) (xsh : LLC) (r : List (List V)) (q : Bool) (n0 : OBo) (t0 : Bool) (x0 : LLC) (n1 : OBo) (t1 : Bool) (x1 : LLC) (n2 : OBo) (t2 : Bool) (x2 : LLC) (p : Bys) (ys2 : LLC) : Ex × Fr × Hp := (Ex.exit 4, [(0, V.yl 1), (3, V.ptr 2 0 0 0), (6, V.ptr 3 0 0 0), (24, V.agg [V.c (C.sl 2 n0 t0 x0), V.c (C.sl 2 n1 t1 x1), V.c (C.sl 2 n2 t2 x2)]), (25, V.c (C.int IntKind.i64 0)), (26, V.c (C.bool false))], [O.box [V.c (C.sl 3 kn kt xsh)], O.yo r q, O.mem 1 0 ys2, O.box [V.c (C.str p), V.c (C.sl 5 (some true) true []), V.c (C.sl 5 (some true) true []), V.c (C.sl 5 (some true) true [])]])
theorem t137A0 (kn : OBo) (kt : Bool) (xsh : LLC) (r : List (List V)) (q : Bool) (n0 : OBo) (t0 : Bool) (x0 : LLC) (n1 : OBo) (t1 : Bool) (x1 : LLC) (n2 : OBo) (t2 : Bool) (x2 : LLC) (p : Bys) : p137.lts bA137 (sA137 kn kt xsh r q n0 t0 x0 n1 t1 x1 n2 t2 x2 p 0) = (Tr.br true (Tr.br (decide (0 < (↑x0.length : Int))) (Tr.br (p == []) (Tr.chk true (Tr.chk true (Tr.chk (decide (Int.toNat 0 < x0.length)) (Tr.chk (shOk [Sk.str, Sk.sl 5] (x0.getD (Int.toNat 0) [])) (Tr.leaf (R.st Ex.nrm [(0, V.yl 1), (3, V.ptr 2 0 0 0), (6, V.ptr 3 0 0 0), (24, V.agg [V.c (C.sl 2 n0 t0 x0), V.c (C.sl 2 n1 t1 x1), V.c (C.sl 2 n2 t2 x2)]), (25, V.c (C.int IntKind.i64 1))] [O.box [V.c (C.sl 3 kn kt xsh)], O.yo r q, O.mem 1 0 [[C.sl 2 n0 t0 x0], [C.sl 2 n1 t1 x1], [C.sl 2 n2 t2 x2]], O.box [V.c (C.str ((x0.getD (Int.toNat 0) []).headD C.pnil).st), V.c (C.sl 5 (some true) true []), V.c (C.sl 5 (some true) true []), V.c (C.sl 5 (some true) true [])]])))))) (Tr.chk true (Tr.chk true (Tr.chk (decide (Int.toNat 0 < x0.length)) (Tr.chk (shOk [Sk.str, Sk.sl 5] (x0.getD (Int.toNat 0) [])) (Tr.br (Op.bytesLess ((x0.getD (Int.toNat 0) []).headD C.pnil).st p) (Tr.chk true (Tr.chk true (Tr.chk (decide (Int.toNat 0 < x0.length)) (Tr.chk (shOk [Sk.str, Sk.sl 5] (x0.getD (Int.toNat 0) [])) (Tr.leaf (R.st Ex.nrm [(0, V.yl 1), (3, V.ptr 2 0 0 0), (6, V.ptr 3 0 0 0), (24, V.agg [V.c (C.sl 2 n0 t0 x0), V.c (C.sl 2 n1 t1 x1), V.c (C.sl 2 n2 t2 x2)]), (25, V.c (C.int IntKind.i64 1))] [O.box [V.c (C.sl 3 kn kt xsh)], O.yo r q, O.mem 1 0 [[C.sl 2 n0 t0 x0], [C.sl 2 n1 t1 x1], [C.sl 2 n2 t2 x2]], O.box [V.c (C.str ((x0.getD (Int.toNat 0) []).headD C.pnil).st), V.c (C.sl 5 (some true) true []), V.c (C.sl 5 (some true) true []), V.c (C.sl 5 (some true) true [])]])))))) (Tr.leaf (R.st Ex.nrm [(0, V.yl 1), (3, V.ptr 2 0 0 0), (6, V.ptr 3 0 0 0), (24, V.agg [V.c (C.sl 2 n0 t0 x0), V.c (C.sl 2 n1 t1 x1), V.c (C.sl 2 n2 t2 x2)]), (25, V.c (C.int IntKind.i64 1))] [O.box [V.c (C.sl 3 kn kt xsh)], O.yo r q, O.mem 1 0 [[C.sl 2 n0 t0 x0], [C.sl 2 n1 t1 x1], [C.sl 2 n2 t2 x2]], O.box [V.c (C.str p), V.c (C.sl 5 (some true) true []), V.c (C.sl 5 (some true) true []), V.c (C.sl 5 (some true) true [])]])))))))) (Tr.leaf (R.st Ex.nrm [(0, V.yl 1), (3, V.ptr 2 0 0 0), (6, V.ptr 3 0 0 0), (24, V.agg [V.c (C.sl 2 n0 t0 x0), V.c (C.sl 2 n1 t1 x1), V.c (C.sl 2 n2 t2 x2)]), (25, V.c (C.int IntKind.i64 1))] [O.box [V.c (C.sl 3 kn kt xsh)], O.yo r q, O.mem 1 0 [[C.sl 2 n0 t0 x0], [C.sl 2 n1 t1 x1], [C.sl 2 n2 t2 x2]], O.box [V.c (C.str p), V.c (C.sl 5 (some true) true []), V.c (C.sl 5 (some true) true []), V.c (C.sl 5 (some true) true [])]]))) (Tr.leaf (R.x (x137A0x0 kn kt xsh r q n0 t0 x0 n1 t1 x1 n2 t2 x2 p ([[C.sl 2 n0 t0 x0], [C.sl 2 n1 t1 x1], [C.sl 2 n2 t2 x2]]))))) := by kernel_rfl
abbrev x137A1x0 (kn : OBo) (kt : Bool) (xsh : LLC) (r : List (List V)) (q : Bool) (n0 : OBo) (t0 : Bool) (x0 : LLC) (n1 : OBo) (t1 : Bool) (x1 : LLC) (n2 : OBo) (t2 : Bool) (x2 : LLC) (p : Bys) (ys2 : LLC) : Ex × Fr × Hp := (Ex.exit 4, [(0, V.yl 1), (3, V.ptr 2 0 0 0), (6, V.ptr 3 0 0 0), (24, V.agg [V.c (C.sl 2 n0 t0 x0), V.c (C.sl 2 n1 t1 x1), V.c (C.sl 2 n2 t2 x2)]), (25, V.c (C.int IntKind.i64 1)), (26, V.c (C.bool false))], [O.box [V.c (C.sl 3 kn kt xsh)], O.yo r q, O.mem 1 0 ys2, O.box [V.c (C.str p), V.c (C.sl 5 (some true) true []), V.c (C.sl 5 (some true) true []), V.c (C.sl 5 (some true) true [])]])
theorem t137A1 (kn : OBo) (kt : Bool) (xsh : LLC) (r : List (List V)) (q : Bool) (n0 : OBo) (t0 : Bool) (x0 : LLC) (n1 : OBo) (t1 : Bool) (x1 : LLC) (n2 : OBo) (t2 : Bool) (x2 : LLC) (p : Bys) : p137.lts bA137 (sA137 kn kt xsh r q n0 t0 x0 n1 t1 x1 n2 t2 x2 p 1) = (Tr.br true (Tr.br (decide (0 < (↑x1.length : Int))) (Tr.br (p == []) (Tr.chk true (Tr.chk true (Tr.chk (decide (Int.toNat 0 < x1.length)) (Tr.chk (shOk [Sk.str, Sk.sl 5] (x1.getD (Int.toNat 0) [])) (Tr.leaf (R.st Ex.nrm [(0, V.yl 1), (3, V.ptr 2 0 0 0), (6, V.ptr 3 0 0 0), (24, V.agg [V.c (C.sl 2 n0 t0 x0), V.c (C.sl 2 n1 t1 x1), V.c (C.sl 2 n2 t2 x2)]), (25, V.c (C.int IntKind.i64 2))] [O.box [V.c (C.sl 3 kn kt xsh)], O.yo r q, O.mem 1 0 [[C.sl 2 n0 t0 x0], [C.sl 2 n1 t1 x1], [C.sl 2 n2 t2 x2]], O.box [V.c (C.str ((x1.getD (Int.toNat 0) []).headD C.pnil).st), V.c (C.sl 5 (some true) true []), V.c (C.sl 5 (some true) true []), V.c (C.sl 5 (some true) true [])]])))))) (Tr.chk true (Tr.chk true (Tr.chk (decide (Int.toNat 0 < x1.length)) (Tr.chk (shOk [Sk.str, Sk.sl 5] (x1.getD (Int.toNat 0) [])) (Tr.br (Op.bytesLess ((x1.getD (Int.toNat 0) []).headD C.pnil).st p) (Tr.chk true (Tr.chk true (Tr.chk (decide (Int.toNat 0 < x1.length)) (Tr.chk (shOk [Sk.str, Sk.sl 5] (x1.getD (Int.toNat 0) [])) (Tr.leaf (R.st Ex.nrm [(0, V.yl 1), (3, V.ptr 2 0 0 0), (6, V.ptr 3 0 0 0), (24, V.agg [V.c (C.sl 2 n0 t0 x0), V.c (C.sl 2 n1 t1 x1), V.c (C.sl 2 n2 t2 x2)]), (25, V.c (C.int IntKind.i64 2))] [O.box [V.c (C.sl 3 kn kt xsh)], O.yo r q, O.mem 1 0 [[C.sl 2 n0 t0 x0], [C.sl 2 n1 t1 x1], [C.sl 2 n2 t2 x2]], O.box [V.c (C.str ((x1.getD (Int.toNat 0) []).headD C.pnil).st), V.c (C.sl 5 (some true) true []), V.c (C.sl 5 (some true) true []), V.c (C.sl 5 (some true) true [])]])))))) (Tr.leaf (R.st Ex.nrm [(0, V.yl 1), (3, V.ptr 2 0 0 0), (6, V.ptr 3 0 0 0), (24, V.agg [V.c (C.sl 2 n0 t0 x0), V.c (C.sl 2 n1 t1 x1), V.c (C.sl 2 n2 t2 x2)]), (25, V.c (C.int IntKind.i64 2))] [O.box [V.c (C.sl 3 kn kt xsh)], O.yo r q, O.mem 1 0 [[C.sl 2 n0 t0 x0], [C.sl 2 n1 t1 x1], [C.sl 2 n2 t2 x2]], O.box [V.c (C.str p), V.c (C.sl 5 (some true) true []), V.c (C.sl 5 (some true) true []), V.c (C.sl 5 (some true) true [])]])))))))) (Tr.leaf (R.st Ex.nrm [(0, V.yl 1), (3, V.ptr 2 0 0 0), (6, V.ptr 3 0 0 0), (24, V.agg [V.c (C.sl 2 n0 t0 x0), V.c (C.sl 2 n1 t1 x1), V.c (C.sl 2 n2 t2 x2)]), (25, V.c (C.int IntKind.i64 2))] [O.box [V.c (C.sl 3 kn kt xsh)], O.yo r q, O.mem 1 0 [[C.sl 2 n0 t0 x0], [C.sl 2 n1 t1 x1], [C.sl 2 n2 t2 x2]], O.box [V.c (C.str p), V.c (C.sl 5 (some true) true []), V.c (C.sl 5 (some true) true []), V.c (C.sl 5 (some true) true [])]]))) (Tr.leaf (R.x (x137A1x0 kn kt xsh r q n0 t0 x0 n1 t1 x1 n2 t2 x2 p ([[C.sl 2 n0 t0 x0], [C.sl 2 n1 t1 x1], [C.sl 2 n2 t2 x2]]))))) := by kernel_rfl
abbrev x137A2x0 (kn : OBo) (kt : Bool) (xsh : LLC) (r : List (List V)) (q : Bool) (n0 : OBo) (t0 : Bool) (x0 : LLC) (n1 : OBo) (t1 : Bool) (x1 : LLC) (n2 : OBo) (t2 : Bool) (x2 : LLC) (p : Bys) (ys2 : LLC) : Ex × Fr × Hp := (Ex.exit 4, [(0, V.yl 1), (3, V.ptr 2 0 0 0), (6, V.ptr 3 0 0 0), (24, V.agg [V.c (C.sl 2 n0 t0 x0), V.c (C.sl 2 n1 t1 x1), V.c (C.sl 2 n2 t2 x2)]), (25, V.c (C.int IntKind.i64 2)), (26, V.c (C.bool false))], [O.box [V.c (C.sl 3 kn kt xsh)], O.yo r q, O.mem 1 0 ys2, O.box [V.c (C.str p), V.c (C.sl 5 (some true) true []), V.c (C.sl 5 (some true) true []), V.c (C.sl 5 (some true) true [])]])
theorem t137A2 (kn : OBo) (kt : Bool) (xsh : LLC) (r : List (List V)) (q : Bool) (n0 : OBo) (t0 : Bool) (x0 : LLC) (n1 : OBo) (t1 : Bool) (x1 : LLC) (n2 : OBo) (t2 : Bool) (x2 : LLC) (p : Bys) : p137.lts bA137 (sA137 kn kt xsh r q n0 t0 x0 n1 t1 x1 n2 t2 x2 p 2) = (Tr.br true (Tr.br (decide (0 < (↑x2.length : Int))) (Tr.br (p == []) (Tr.chk true (Tr.chk true (Tr.chk (decide (Int.toNat 0 < x2.length)) (Tr.chk (shOk [Sk.str, Sk.sl 5] (x2.getD (Int.toNat 0) [])) (Tr.leaf (R.st Ex.nrm [(0, V.yl 1), (3, V.ptr 2 0 0 0), (6, V.ptr 3 0 0 0), (24, V.agg [V.c (C.sl 2 n0 t0 x0), V.c (C.sl 2 n1 t1 x1), V.c (C.sl 2 n2 t2 x2)]), (25, V.c (C.int IntKind.i64 3))] [O.box [V.c (C.sl 3 kn kt xsh)], O.yo r q, O.mem 1 0 [[C.sl 2 n0 t0 x0], [C.sl 2 n1 t1 x1], [C.sl 2 n2 t2 x2]], O.box [V.c (C.str ((x2.getD (Int.toNat 0) []).headD C.pnil).st), V.c (C.sl 5 (some true) true []), V.c (C.sl 5 (some true) true []), V.c (C.sl 5 (some true) true [])]])))))) (Tr.chk true (Tr.chk true (Tr.chk (decide (Int.toNat 0 < x2.length)) (Tr.chk (shOk [Sk.str, Sk.sl 5] (x2.getD (Int.toNat 0) [])) (Tr.br (Op.bytesLess ((x2.getD (Int.toNat 0) []).headD C.pnil).st p) (Tr.chk true (Tr.chk true (Tr.chk (decide (Int.toNat 0 < x2.length)) (Tr.chk (shOk [Sk.str, Sk.sl 5] (x2.getD (Int.toNat 0) [])) (Tr.leaf (R.st Ex.nrm [(0, V.yl 1), (3, V.ptr 2 0 0 0), (6, V.ptr 3 0 0 0), (24, V.agg [V.c (C.sl 2 n0 t0 x0), V.c (C.sl 2 n1 t1 x1), V.c (C.sl 2 n2 t2 x2)]), (25, V.c (C.int IntKind.i64 3))] [O.box [V.c (C.sl 3 kn kt xsh)], O.yo r q, O.mem 1 0 [[C.sl 2 n0 t0 x0], [C.sl 2 n1 t1 x1], [C.sl 2 n2 t2 x2]], O.box [V.c (C.str ((x2.getD (Int.toNat 0) []).headD C.pnil).st), V.c (C.sl 5 (some true) true []), V.c (C.sl 5 (some true) true []), V.c (C.sl 5 (some true) true [])]])))))) (Tr.leaf (R.st Ex.nrm [(0, V.yl 1), (3, V.ptr 2 0 0 0), (6, V.ptr 3 0 0 0), (24, V.agg [V.c (C.sl 2 n0 t0 x0), V.c (C.sl 2 n1 t1 x1), V.c (C.sl 2 n2 t2 x2)]), (25, V.c (C.int IntKind.i64 3))] [O.box [V.c (C.sl 3 kn kt xsh)], O.yo r q, O.mem 1 0 [[C.sl 2 n0 t0 x0], [C.sl 2 n1 t1 x1], [C.sl 2 n2 t2 x2]], O.box [V.c (C.str p), V.c (C.sl 5 (some true) true []), V.c (C.sl 5 (some true) true []), V.c (C.sl 5 (some true) true [])]])))))))) (Tr.leaf (R.st Ex.nrm [(0, V.yl 1), (3, V.ptr 2 0 0 0), (6, V.ptr 3 0 0 0), (24, V.agg [V.c (C.sl 2 n0 t0 x0), V.c (C.sl 2 n1 t1 x1), V.c (C.sl 2 n2 t2 x2)]), (25, V.c (C.int IntKind.i64 3))] [O.box [V.c (C.sl 3 kn kt xsh)], O.yo r q, O.mem 1 0 [[C.sl 2 n0 t0 x0], [C.sl 2 n1 t1 x1], [C.sl 2 n2 t2 x2]], O.box [V.c (C.str p), V.c (C.sl 5 (some true) true []), V.c (C.sl 5 (some true) true []), V.c (C.sl 5 (some true) true [])]]))) (Tr.leaf (R.x (x137A2x0 kn kt xsh r q n0 t0 x0 n1 t1 x1 n2 t2 x2 p ([[C.sl 2 n0 t0 x0], [C.sl 2 n1 t1 x1], [C.sl 2 n2 t2 x2]]))))) := by kernel_rfl
abbrev x137A3x0 (kn : OBo) (kt : Bool) (xsh : LLC) (r : List (List V)) (q : Bool) (n0 : OBo) (t0 : Bool) (x0 : LLC) (n1 : OBo) (t1 : Bool) (x1 : LLC) (n2 : OBo) (t2 : Bool) (x2 : LLC) (p : Bys) (ys2 : LLC) : Ex × Fr × Hp := (Ex.exit 4, [(0, V.yl 1), (3, V.ptr 2 0 0 0), (6, V.ptr 3 0 0 0), (24, V.agg [V.c (C.sl 2 n0 t0 x0), V.c (C.sl 2 n1 t1 x1), V.c (C.sl 2 n2 t2 x2)]), (25, V.c (C.int IntKind.i64 3)), (26, V.c (C.bool false))], [O.box [V.c (C.sl 3 kn kt xsh)], O.yo r q, O.mem 1 0 ys2, O.box [V.c (C.str p), V.c (C.sl 5 (some true) true []), V.c (C.sl 5 (some true) true []), V.c (C.sl 5 (some true) true [])]])
theorem t137A3 (kn : OBo) (kt : Bool) (xsh : LLC) (r : List (List V)) (q : Bool) (n0 : OBo) (t0 : Bool) (x0 : LLC) (n1 : OBo) (t1 : Bool) (x1 : LLC) (n2 : OBo) (t2 : Bool) (x2 : LLC) (p : Bys) : p137.lts bA137 (sA137 kn kt xsh r q n0 t0 x0 n1 t1 x1 n2 t2 x2 p 3) = (Tr.br false Tr.fail (Tr.leaf (R.x (x137A3x0 kn kt xsh r q n0 t0 x0 n1 t1 x1 n2 t2 x2 p ([[C.sl 2 n0 t0 x0], [C.sl 2 n1 t1 x1], [C.sl 2 n2 t2 x2]]))))) := by kernel_rfl
theorem t137v (kn : OBo) (kt : Bool) (xsh : LLC) (r : List (List V)) (q : Bool) (n0 : OBo) (t0 : Bool) (x0 : LLC) (n1 : OBo) (t1 : Bool) (x1 : LLC) (n2 : OBo) (t2 : Bool) (x2 : LLC) (p : Bys) : p137.lkx bU137 0 (xA137 kn kt xsh r q n0 t0 x0 n1 t1 x1 n2 t2 x2 p) = Tr.br (p == []) (Tr.leaf (R.x (xE137 kn kt xsh r q n0 t0 x0 n1 t1 x1 n2 t2 x2 p))) (Tr.ls 1 (sB137 kn kt xsh r q n0 t0 x0 n1 t1 x1 n2 t2 x2 n0 t0 x0 n1 t1 x1 n2 t2 x2 p (some true) true [] (some true) true [] (some true) true [] 0)) := by kernel_rfl
abbrev x137B0x0 (kn : OBo) (kt : Bool) (xsh : LLC) (r : List (List V)) (q : Bool) (n0 : OBo) (t0 : Bool) (x0 : LLC) (n1 : OBo) (t1 : Bool) (x1 : LLC) (n2 : OBo) (t2 : Bool) (x2 : LLC) (p : Bys) (c0 : OBo) (d0 : Bool) (z0 : LLC) (c1 : OBo) (d1 : Bool) (z1 : LLC) (c2 : OBo) (d2 : Bool) (z2 : LLC) (ys2 : LLC) : Ex × Fr × Hp := (Ex.exit 6, [(0, V.yl 1), (3, V.ptr 2 0 0 0), (6, V.ptr 3 0 0 0), (54, V.agg [V.c (C.sl 2 n0 t0 x0), V.c (C.sl 2 n1 t1 x1), V.c (C.sl 2 n2 t2 x2)]), (55, V.c (C.int IntKind.i64 0)), (56, V.c (C.bool false))], [O.box [V.c (C.sl 3 kn kt xsh)], O.yo r q, O.mem 1 0 ys2, O.box [V.c (C.str p), V.c (C.sl 5 c0 d0 z0), V.c (C.sl 5 c1 d1 z1), V.c (C.sl 5 c2 d2 z2)]])
theorem t137B0 (kn : OBo) (kt : Bool) (xsh : LLC) (r : List (List V)) (q : Bool) (n0 : OBo) (t0 : Bool) (x0 : LLC) (n1 : OBo) (t1 : Bool) (x1 : LLC) (n2 : OBo) (t2 : Bool) (x2 : LLC) (a0 : OBo) (b0 : Bool) (y0 : LLC) (a1 : OBo) (b1 : Bool) (y1 : LLC) (a2 : OBo) (b2 : Bool) (y2 : LLC) (p : Bys) (c0 : OBo) (d0 : Bool) (z0 : LLC) (c1 : OBo) (d1 : Bool) (z1 : LLC) (c2 : OBo) (d2 : Bool) (z2 : LLC) : p137.lts bB137 (sB137 kn kt xsh r q n0 t0 x0 n1 t1 x1 n2 t2 x2 a0 b0 y0 a1 b1 y1 a2 b2 y2 p c0 d0 z0 c1 d1 z1 c2 d2 z2 0) = (Tr.br true (Tr.br (decide (0 < (↑x0.length : Int))) (Tr.chk true (Tr.chk true (Tr.chk (decide (Int.toNat 0 < x0.length)) (Tr.chk (shOk [Sk.str, Sk.sl 5] (x0.getD (Int.toNat 0) [])) (Tr.br (((x0.getD (Int.toNat 0) []).headD C.pnil).st == p) (Tr.chk true (Tr.chk true (Tr.chk (decide (Int.toNat 0 < x0.length)) (Tr.chk (shOk [Sk.str, Sk.sl 5] (x0.getD (Int.toNat 0) [])) (Tr.chk true (Tr.chk (decide (Int.toNat 1 <= x0.length)) (Tr.chk (decide (x0.length <= x0.length)) (Tr.chk true (Tr.chk true (Tr.chk true (Tr.chk true (Tr.chk true (Tr.chk true (Tr.chk true (Tr.chk true (Tr.chk true (Tr.chk true (Tr.chk true (Tr.chk true (Tr.leaf (R.st Ex.nrm [(0, V.yl 1), (3, V.ptr 2 0 0 0), (6, V.ptr 3 0 0 0), (54, V.agg [V.c (C.sl 2 n0 t0 x0), V.c (C.sl 2 n1 t1 x1), V.c (C.sl 2 n2 t2 x2)]), (55, V.c (C.int IntKind.i64 1))] [O.box [V.c (C.sl 3 kn kt xsh)], O.yo r q, O.mem 1 0 [[C.sl 2 n0 (cutTight none (t0 && decide (x0.length = x0.length))) (List.drop (Int.toNat 1) (List.take x0.length x0))], [C.sl 2 a1 b1 y1], [C.sl 2 a2 b2 y2]], O.box [V.c (C.str p), V.c (C.sl 5 none false ((x0.getD (Int.toNat 0) []).tail.headD C.pnil).xs), V.c (C.sl 5 c1 d1 z1), V.c (C.sl 5 c2 d2 z2)]]))))))))))))))))))))) (Tr.leaf (R.st Ex.nrm [(0, V.yl 1), (3, V.ptr 2 0 0 0), (6, V.ptr 3 0 0 0), (54, V.agg [V.c (C.sl 2 n0 t0 x0), V.c (C.sl 2 n1 t1 x1), V.c (C.sl 2 n2 t2 x2)]), (55, V.c (C.int IntKind.i64 1))] [O.box [V.c (C.sl 3 kn kt xsh)], O.yo r q, O.mem 1 0 [[C.sl 2 a0 b0 y0], [C.sl 2 a1 b1 y1], [C.sl 2 a2 b2 y2]], O.box [V.c (C.str p), V.c (C.sl 5 c0 d0 z0), V.c (C.sl 5 c1 d1 z1), V.c (C.sl 5 c2 d2 z2)]]))))))) (Tr.leaf (R.st Ex.nrm [(0, V.yl 1), (3, V.ptr 2 0 0 0), (6, V.ptr 3 0 0 0), (54, V.agg [V.c (C.sl 2 n0 t0 x0), V.c (C.sl 2 n1 t1 x1), V.c (C.sl 2 n2 t2 x2)]), (55, V.c (C.int IntKind.i64 1))] [O.box [V.c (C.sl 3 kn kt xsh)], O.yo r q, O.mem 1 0 [[C.sl 2 a0 b0 y0], [C.sl 2 a1 b1 y1], [C.sl 2 a2 b2 y2]], O.box [V.c (C.str p), V.c (C.sl 5 c0 d0 z0), V.c (C.sl 5 c1 d1 z1), V.c (C.sl 5 c2 d2 z2)]]))) (Tr.leaf (R.x (x137B0x0 kn kt xsh r q n0 t0 x0 n1 t1 x1 n2 t2 x2 p c0 d0 z0 c1 d1 z1 c2 d2 z2 ([[C.sl 2 a0 b0 y0], [C.sl 2 a1 b1 y1], [C.sl 2 a2 b2 y2]]))))) := by kernel_rfl
abbrev x137B1x0 (kn : OBo) (kt : Bool) (xsh : LLC) (r : List (List V)) (q : Bool) (n0 : OBo) (t0 : Bool) (x0 : LLC) (n1 : OBo) (t1 : Bool) (x1 : LLC) (n2 : OBo) (t2 : Bool) (x2 : LLC) (p : Bys) (c0 : OBo) (d0 : Bool) (z0 : LLC) (c1 : OBo) (d1 : Bool) (z1 : LLC) (c2 : OBo) (d2 : Bool) (z2 : LLC) (ys2 : LLC) : Ex × Fr × Hp := (Ex.exit 6, [(0, V.yl 1), (3, V.ptr 2 0 0 0), (6, V.ptr 3 0 0 0), (54, V.agg [V.c (C.sl 2 n0 t0 x0), V.c (C.sl 2 n1 t1 x1), V.c (C.sl 2 n2 t2 x2)]), (55, V.c (C.int IntKind.i64 1)), (56, V.c (C.bool false))], [O.box [V.c (C.sl 3 kn kt xsh)], O.yo r q, O.mem 1 0 ys2, O.box [V.c (C.str p), V.c (C.sl 5 c0 d0 z0), V.c (C.sl 5 c1 d1 z1), V.c (C.sl 5 c2 d2 z2)]])
theorem t137B1 (kn : OBo) (kt : Bool) (xsh : LLC) (r : List (List V)) (q : Bool) (n0 : OBo) (t0 : Bool) (x0 : LLC) (n1 : OBo) (t1 : Bool) (x1 : LLC) (n2 : OBo) (t2 : Bool) (x2 : LLC) (a0 : OBo) (b0 : Bool) (y0 : LLC) (a1 : OBo) (b1 : Bool) (y1 : LLC) (a2 : OBo) (b2 : Bool) (y2 : LLC) (p : Bys) (c0 : OBo) (d0 : Bool) (z0 : LLC) (c1 : OBo) (d1 : Bool) (z1 : LLC) (c2 : OBo) (d2 : Bool) (z2 : LLC) : p137.lts bB137 (sB137 kn kt xsh r q n0 t0 x0 n1 t1 x1 n2 t2 x2 a0 b0 y0 a1 b1 y1 a2 b2 y2 p c0 d0 z0 c1 d1 z1 c2 d2 z2 1) = (Tr.br true (Tr.br (decide (0 < (↑x1.length : Int))) (Tr.chk true (Tr.chk true (Tr.chk (decide (Int.toNat 0 < x1.length)) (Tr.chk (shOk [Sk.str, Sk.sl 5] (x1.getD (Int.toNat 0) [])) (Tr.br (((x1.getD (Int.toNat 0) []).headD C.pnil).st == p) (Tr.chk true (Tr.chk true (Tr.chk (decide (Int.toNat 0 < x1.length)) (Tr.chk (shOk [Sk.str, Sk.sl 5] (x1.getD (Int.toNat 0) [])) (Tr.chk true (Tr.chk (decide (Int.toNat 1 <= x1.length)) (Tr.chk (decide (x1.length <= x1.length)) (Tr.chk true (Tr.chk true (Tr.chk true (Tr.chk true (Tr.chk true (Tr.chk true (Tr.chk true (Tr.chk true (Tr.chk true (Tr.chk true (Tr.chk true (Tr.chk true (Tr.leaf (R.st Ex.nrm [(0, V.yl 1), (3, V.ptr 2 0 0 0), (6, V.ptr 3 0 0 0), (54, V.agg [V.c (C.sl 2 n0 t0 x0), V.c (C.sl 2 n1 t1 x1), V.c (C.sl 2 n2 t2 x2)]), (55, V.c (C.int IntKind.i64 2))] [O.box [V.c (C.sl 3 kn kt xsh)], O.yo r q, O.mem 1 0 [[C.sl 2 a0 b0 y0], [C.sl 2 n1 (cutTight none (t1 && decide (x1.length = x1.length))) (List.drop (Int.toNat 1) (List.take x1.length x1))], [C.sl 2 a2 b2 y2]], O.box [V.c (C.str p), V.c (C.sl 5 c0 d0 z0), V.c (C.sl 5 none false ((x1.getD (Int.toNat 0) []).tail.headD C.pnil).xs), V.c (C.sl 5 c2 d2 z2)]]))))))))))))))))))))) (Tr.leaf (R.st Ex.nrm [(0, V.yl 1), (3, V.ptr 2 0 0 0), (6, V.ptr 3 0 0 0), (54, V.agg [V.c (C.sl 2 n0 t0 x0), V.c (C.sl 2 n1 t1 x1), V.c (C.sl 2 n2 t2 x2)]), (55, V.c (C.int IntKind.i64 2))] [O.box [V.c (C.sl 3 kn kt xsh)], O.yo r q, O.mem 1 0 [[C.sl 2 a0 b0 y0], [C.sl 2 a1 b1 y1], [C.sl 2 a2 b2 y2]], O.box [V.c (C.str p), V.c (C.sl 5 c0 d0 z0), V.c (C.sl 5 c1 d1 z1), V.c (C.sl 5 c2 d2 z2)]]))))))) (Tr.leaf (R.st Ex.nrm [(0, V.yl 1), (3, V.ptr 2 0 0 0), (6, V.ptr 3 0 0 0), (54, V.agg [V.c (C.sl 2 n0 t0 x0), V.c (C.sl 2 n1 t1 x1), V.c (C.sl 2 n2 t2 x2)]), (55, V.c (C.int IntKind.i64 2))] [O.box [V.c (C.sl 3 kn kt xsh)], O.yo r q, O.mem 1 0 [[C.sl 2 a0 b0 y0], [C.sl 2 a1 b1 y1], [C.sl 2 a2 b2 y2]], O.box [V.c (C.str p), V.c (C.sl 5 c0 d0 z0), V.c (C.sl 5 c1 d1 z1), V.c (C.sl 5 c2 d2 z2)]]))) (Tr.leaf (R.x (x137B1x0 kn kt xsh r q n0 t0 x0 n1 t1 x1 n2 t2 x2 p c0 d0 z0 c1 d1 z1 c2 d2 z2 ([[C.sl 2 a0 b0 y0], [C.sl 2 a1 b1 y1], [C.sl 2 a2 b2 y2]]))))) := by kernel_rfl
abbrev x137B2x0 (kn : OBo) (kt : Bool) (xsh : LLC) (r : List (List V)) (q : Bool) (n0 : OBo) (t0 : Bool) (x0 : LLC) (n1 : OBo) (t1 : Bool) (x1 : LLC) (n2 : OBo) (t2 : Bool) (x2 : LLC) (p : Bys) (c0 : OBo) (d0 : Bool) (z0 : LLC) (c1 : OBo) (d1 : Bool) (z1 : LLC) (c2 : OBo) (d2 : Bool) (z2 : LLC) (ys2 : LLC) : Ex × Fr × Hp := (Ex.exit 6, [(0, V.yl 1), (3, V.ptr 2 0 0 0), (6, V.ptr 3 0 0 0), (54, V.agg [V.c (C.sl 2 n0 t0 x0), V.c (C.sl 2 n1 t1 x1), V.c (C.sl 2 n2 t2 x2)]), (55, V.c (C.int IntKind.i64 2)), (56, V.c (C.bool false))], [O.box [V.c (C.sl 3 kn kt xsh)], O.yo r q, O.mem 1 0 ys2, O.box [V.c (C.str p), V.c (C.sl 5 c0 d0 z0), V.c (C.sl 5 c1 d1 z1), V.c (C.sl 5 c2 d2 z2)]])
theorem t137B2 (kn : OBo) (kt : Bool) (xsh : LLC) (r : List (List V)) (q : Bool) (n0 : OBo) (t0 : Bool) (x0 : LLC) (n1 : OBo) (t1 : Bool) (x1 : LLC) (n2 : OBo) (t2 : Bool) (x2 : LLC) (a0 : OBo) (b0 : Bool) (y0 : LLC) (a1 : OBo) (b1 : Bool) (y1 : LLC) (a2 : OBo) (b2 : Bool) (y2 : LLC) (p : Bys) (c0 : OBo) (d0 : Bool) (z0 : LLC) (c1 : OBo) (d1 : Bool) (z1 : LLC) (c2 : OBo) (d2 : Bool) (z2 : LLC) : p137.lts bB137 (sB137 kn kt xsh r q n0 t0 x0 n1 t1 x1 n2 t2 x2 a0 b0 y0 a1 b1 y1 a2 b2 y2 p c0 d0 z0 c1 d1 z1 c2 d2 z2 2) = (Tr.br true (Tr.br (decide (0 < (↑x2.length : Int))) (Tr.chk true (Tr.chk true (Tr.chk (decide (Int.toNat 0 < x2.length)) (Tr.chk (shOk [Sk.str, Sk.sl 5] (x2.getD (Int.toNat 0) [])) (Tr.br (((x2.getD (Int.toNat 0) []).headD C.pnil).st == p) (Tr.chk true (Tr.chk true (Tr.chk (decide (Int.toNat 0 < x2.length)) (Tr.chk (shOk [Sk.str, Sk.sl 5] (x2.getD (Int.toNat 0) [])) (Tr.chk true (Tr.chk (decide (Int.toNat 1 <= x2.length)) (Tr.chk (decide (x2.length <= x2.length)) (Tr.chk true (Tr.chk true (Tr.chk true (Tr.chk true (Tr.chk true (Tr.chk true (Tr.chk true (Tr.chk true (Tr.chk true (Tr.chk true (Tr.chk true (Tr.chk true (Tr.leaf (R.st Ex.nrm [(0, V.yl 1), (3, V.ptr 2 0 0 0), (6, V.ptr 3 0 0 0), (54, V.agg [V.c (C.sl 2 n0 t0 x0), V.c (C.sl 2 n1 t1 x1), V.c (C.sl 2 n2 t2 x2)]), (55, V.c (C.int IntKind.i64 3))] [O.box [V.c (C.sl 3 kn kt xsh)], O.yo r q, O.mem 1 0 [[C.sl 2 a0 b0 y0], [C.sl 2 a1 b1 y1], [C.sl 2 n2 (cutTight none (t2 && decide (x2.length = x2.length))) (List.drop (Int.toNat 1) (List.take x2.length x2))]], O.box [V.c (C.str p), V.c (C.sl 5 c0 d0 z0), V.c (C.sl 5 c1 d1 z1), V.c (C.sl 5 none false ((x2.getD (Int.toNat 0) []).tail.headD C.pnil).xs)]]))))))))))))))))))))) (Tr.leaf (R.st Ex.nrm [(0, V.yl 1), (3, V.ptr 2 0 0 0), (6, V.ptr 3 0 0 0), (54, V.agg [V.c (C.sl 2 n0 t0 x0), V.c (C.sl 2 n1 t1 x1), V.c (C.sl 2 n2 t2 x2)]), (55, V.c (C.int IntKind.i64 3))] [O.box [V.c (C.sl 3 kn kt xsh)], O.yo r q, O.mem 1 0 [[C.sl 2 a0 b0 y0], [C.sl 2 a1 b1 y1], [C.sl 2 a2 b2 y2]], O.box [V.c (C.str p), V.c (C.sl 5 c0 d0 z0), V.c (C.sl 5 c1 d1 z1), V.c (C.sl 5 c2 d2 z2)]]))))))) (Tr.leaf (R.st Ex.nrm [(0, V.yl 1), (3, V.ptr 2 0 0 0), (6, V.ptr 3 0 0 0), (54, V.agg [V.c (C.sl 2 n0 t0 x0), V.c (C.sl 2 n1 t1 x1), V.c (C.sl 2 n2 t2 x2)]), (55, V.c (C.int IntKind.i64 3))] [O.box [V.c (C.sl 3 kn kt xsh)], O.yo r q, O.mem 1 0 [[C.sl 2 a0 b0 y0], [C.sl 2 a1 b1 y1], [C.sl 2 a2 b2 y2]], O.box [V.c (C.str p), V.c (C.sl 5 c0 d0 z0), V.c (C.sl 5 c1 d1 z1), V.c (C.sl 5 c2 d2 z2)]]))) (Tr.leaf (R.x (x137B2x0 kn kt xsh r q n0 t0 x0 n1 t1 x1 n2 t2 x2 p c0 d0 z0 c1 d1 z1 c2 d2 z2 ([[C.sl 2 a0 b0 y0], [C.sl 2 a1 b1 y1], [C.sl 2 a2 b2 y2]]))))) := by kernel_rfl
abbrev x137B3x0 (kn : OBo) (kt : Bool) (xsh : LLC) (r : List (List V)) (q : Bool) (n0 : OBo) (t0 : Bool) (x0 : LLC) (n1 : OBo) (t1 : Bool) (x1 : LLC) (n2 : OBo) (t2 : Bool) (x2 : LLC) (p : Bys) (c0 : OBo) (d0 : Bool) (z0 : LLC) (c1 : OBo) (d1 : Bool) (z1 : LLC) (c2 : OBo) (d2 : Bool) (z2 : LLC) (ys2 : LLC) : Ex × Fr × Hp := (Ex.exit 6, [(0, V.yl 1), (3, V.ptr 2 0 0 0), (6, V.ptr 3 0 0 0), (54, V.agg [V.c (C.sl 2 n0 t0 x0), V.c (C.sl 2 n1 t1 x1), V.c (C.sl 2 n2 t2 x2)]), (55, V.c (C.int IntKind.i64 3)), (56, V.c (C.bool false))], [O.box [V.c (C.sl 3 kn kt xsh)], O.yo r q, O.mem 1 0 ys2, O.box [V.c (C.str p), V.c (C.sl 5 c0 d0 z0), V.c (C.sl 5 c1 d1 z1), V.c (C.sl 5 c2 d2 z2)]])
theorem t137B3 (kn : OBo) (kt : Bool) (xsh : LLC) (r : List (List V)) (q : Bool) (n0 : OBo) (t0 : Bool) (x0 : LLC) (n1 : OBo) (t1 : Bool) (x1 : LLC) (n2 : OBo) (t2 : Bool) (x2 : LLC) (a0 : OBo) (b0 : Bool) (y0 : LLC) (a1 : OBo) (b1 : Bool) (y1 : LLC) (a2 : OBo) (b2 : Bool) (y2 : LLC) (p : Bys) (c0 : OBo) (d0 : Bool) (z0 : LLC) (c1 : OBo) (d1 : Bool) (z1 : LLC) (c2 : OBo) (d2 : Bool) (z2 : LLC) : p137.lts bB137 (sB137 kn kt xsh r q n0 t0 x0 n1 t1 x1 n2 t2 x2 a0 b0 y0 a1 b1 y1 a2 b2 y2 p c0 d0 z0 c1 d1 z1 c2 d2 z2 3) = (Tr.br false Tr.fail (Tr.leaf (R.x (x137B3x0 kn kt xsh r q n0 t0 x0 n1 t1 x1 n2 t2 x2 p c0 d0 z0 c1 d1 z1 c2 d2 z2 ([[C.sl 2 a0 b0 y0], [C.sl 2 a1 b1 y1], [C.sl 2 a2 b2 y2]]))))) := by kernel_rfl
abbrev x137wx0 (kn : OBo) (kt : Bool) (xsh : LLC) (r : List (List V)) (q : Bool) (p : Bys) (c0 : OBo) (d0 : Bool) (z0 : LLC) (c1 : OBo) (d1 : Bool) (z1 : LLC) (c2 : OBo) (d2 : Bool) (z2 : LLC) (ys2 : LLC) : Ex × Fr × Hp := (Ex.ret, [(0, V.yl 1), (3, V.ptr 2 0 0 0), (86, V.c (C.bool true))], [O.box [V.c (C.sl 3 kn kt xsh)], O.yo r.tail q, O.mem 1 0 ys2, O.box [V.c (C.str p), V.c (C.sl 5 c0 d0 z0), V.c (C.sl 5 c1 d1 z1), V.c (C.sl 5 c2 d2 z2)]])
theorem t137w (kn : OBo) (kt : Bool) (xsh : LLC) (r : List (List V)) (q : Bool) (n0 : OBo) (t0 : Bool) (x0 : LLC) (n1 : OBo) (t1 : Bool) (x1 : LLC) (n2 : OBo) (t2 : Bool) (x2 : LLC) (a0 : OBo) (b0 : Bool) (y0 : LLC) (a1 : OBo) (b1 : Bool) (y1 : LLC) (a2 : OBo) (b2 : Bool) (y2 : LLC) (p : Bys) (c0 : OBo) (d0 : Bool) (z0 : LLC) (c1 : OBo) (d1 : Bool) (z1 : LLC) (c2 : OBo) (d2 : Bool) (z2 : LLC) : p137.lkx bU137 1 (xB137 kn kt xsh r q n0 t0 x0 n1 t1 x1 n2 t2 x2 a0 b0 y0 a1 b1 y1 a2 b2 y2 p c0 d0 z0 c1 d1 z1 c2 d2 z2) = (Tr.chk (yoHd r [V.agg [V.c (C.str p), V.c (C.sl 5 c0 d0 z0), V.c (C.sl 5 c1 d1 z1), V.c (C.sl 5 c2 d2 z2)]]) (Tr.br (!yoAns r q) (Tr.leaf (R.x (x137wx0 kn kt xsh r q p c0 d0 z0 c1 d1 z1 c2 d2 z2 ([[C.sl 2 a0 b0 y0], [C.sl 2 a1 b1 y1], [C.sl 2 a2 b2 y2]])))) (Tr.leaf (R.st Ex.nrm [(0, V.yl 1), (3, V.ptr 2 0 0 0)] [O.box [V.c (C.sl 3 kn kt xsh)], O.yo r.tail q, O.mem 1 0 [[C.sl 2 a0 b0 y0], [C.sl 2 a1 b1 y1], [C.sl 2 a2 b2 y2]]])))) := by kernel_rfl
theorem k137e (kn : OBo) (kt : Bool) (xsh : LLC) (r : List (List V)) (q : Bool) (n0 : OBo) (t0 : Bool) (x0 : LLC) (n1 : OBo) (t1 : Bool) (x1 : LLC) (n2 : OBo) (t2 : Bool) (x2 : LLC) (p : Bys) : p137.fkx 1 (xE137 kn kt xsh r q n0 t0 x0 n1 t1 x1 n2 t2 x2 p) = Tr.leaf (R.out [] [O.box [V.c (C.sl 3 kn kt xsh)], O.yo r q]) := by kernel_rfl
end Go.Proofs.YtgaabjmbnomimaaDoor
namespace Go.Proofs.YtgaabjmbnomimaaDoor
open Go Go.Ev
def rcN : List Row -> Option Bool | [] => some true | _ :: _ => none
def rcT : List Row -> Bool | [] => true | _ :: _ => false
theorem rowsV_eq (rs : List Row) : rowsV rs = .c (.sl 5 (rcN rs) (rcT rs) (rows rs)) := by cases rs <;> rfl
abbrev pk {α : Type} (j k : Nat) (a b : α) : α := if j < k then a else b
section
variable (kn : OBo) (kt : Bool) (xsh : LLC) (r : List (List V)) (q : Bool) (n0 : OBo) (t0 : Bool) (x : List Ent) (n1 : OBo) (t1 : Bool) (y : List Ent) (n2 : OBo) (t2 : Bool) (z : List Ent)
theorem stepA0 (p : Bys) : p137.ld bA137 (p137.lts bA137 (sA137 kn kt xsh r q n0 t0 (ents x) n1 t1 (ents y) n2 t2 (ents z) p 0)) = some (R.s (sA137 kn kt xsh r q n0 t0 (ents x) n1 t1 (ents y) n2 t2 (ents z) (leastP p x) 1)) := by
 rw [t137A0]
 cases x with
 | nil => rfl
 | cons e l =>
   have h1 : (0 : Int) < ((ents (e :: l)).length : Nat) := by rw [ents_length, List.length_cons]; omega
   have h2 : Int.toNat 0 < (ents (e :: l)).length := by rw [ents_length, List.length_cons]; exact Nat.succ_pos _
   have h3 : (ents (e :: l)).getD (Int.toNat 0) [] = ee e := rfl
   cases p with
   | nil => simp only [ld_br, ld_chk', ld_leaf, h1, h2, h3, ee_ok, ee_p, decide_true, if_true, beq_self_eq_true]; rfl
   | cons b s =>
     have h4 : (b :: s == []) = false := rfl
     simp only [ld_br, ld_chk', ld_leaf, h1, h2, h3, h4, ee_ok, ee_p, decide_true, if_true, Bool.false_eq_true, if_false, leastP]
     cases Op.bytesLess e.1 (b :: s) <;> rfl
theorem stepA1 (p : Bys) : p137.ld bA137 (p137.lts bA137 (sA137 kn kt xsh r q n0 t0 (ents x) n1 t1 (ents y) n2 t2 (ents z) p 1)) = some (R.s (sA137 kn kt xsh r q n0 t0 (ents x) n1 t1 (ents y) n2 t2 (ents z) (leastP p y) 2)) := by
 rw [t137A1]
 cases y with
 | nil => rfl
 | cons e l =>
   have h1 : (0 : Int) < ((ents (e :: l)).length : Nat) := by rw [ents_length, List.length_cons]; omega
   have h2 : Int.toNat 0 < (ents (e :: l)).length := by rw [ents_length, List.length_cons]; exact Nat.succ_pos _
   have h3 : (ents (e :: l)).getD (Int.toNat 0) [] = ee e := rfl
   cases p with
   | nil => simp only [ld_br, ld_chk', ld_leaf, h1, h2, h3, ee_ok, ee_p, decide_true, if_true, beq_self_eq_true]; rfl
   | cons b s =>
     have h4 : (b :: s == []) = false := rfl
     simp only [ld_br, ld_chk', ld_leaf, h1, h2, h3, h4, ee_ok, ee_p, decide_true, if_true, Bool.false_eq_true, if_false, leastP]
     cases Op.bytesLess e.1 (b :: s) <;> rfl
theorem stepA2 (p : Bys) : p137.ld bA137 (p137.lts bA137 (sA137 kn kt xsh r q n0 t0 (ents x) n1 t1 (ents y) n2 t2 (ents z) p 2)) = some (R.s (sA137 kn kt xsh r q n0 t0 (ents x) n1 t1 (ents y) n2 t2 (ents z) (leastP p z) 3)) := by
 rw [t137A2]
 cases z with
 | nil => rfl
 | cons e l =>
   have h1 : (0 : Int) < ((ents (e :: l)).length : Nat) := by rw [ents_length, List.length_cons]; omega
   have h2 : Int.toNat 0 < (ents (e :: l)).length := by rw [ents_length, List.length_cons]; exact Nat.succ_pos _
   have h3 : (ents (e :: l)).getD (Int.toNat 0) [] = ee e := rfl
   cases p with
   | nil => simp only [ld_br, ld_chk', ld_leaf, h1, h2, h3, ee_ok, ee_p, decide_true, if_true, beq_self_eq_true]; rfl
   | cons b s =>
     have h4 : (b :: s == []) = false := rfl
     simp only [ld_br, ld_chk', ld_leaf, h1, h2, h3, h4, ee_ok, ee_p, decide_true, if_true, Bool.false_eq_true, if_false, leastP]
     cases Op.bytesLess e.1 (b :: s) <;> rfl
theorem hct137 : (ctOf [(34, s34)]).ok E := ctOf_cons s34_ok ctOf_nil
def least3 (x y z : List Ent) : List UInt8 := leastP (leastP (leastP [] x) y) z
theorem loopA : ∃ xx, xx = xA137 kn kt xsh r q n0 t0 (ents x) n1 t1 (ents y) n2 t2 (ents z) (least3 x y z) /\ p137.Loops bA137 (sA137 kn kt xsh r q n0 t0 (ents x) n1 t1 (ents y) n2 t2 (ents z) [] 0) xx := by
 refine list_post (p := p137) hct137 (b := bA137) 3 (fun k (p : Bys) => sA137 kn kt xsh r q n0 t0 (ents x) n1 t1 (ents y) n2 t2 (ents z) p k)
   (fun k p => p = match k with | 0 => [] | 1 => leastP [] x | 2 => leastP (leastP [] x) y | _ => least3 x y z) (fun xx => xx = xA137 kn kt xsh r q n0 t0 (ents x) n1 t1 (ents y) n2 t2 (ents z) (least3 x y z)) ?_ ?_ 0 (Nat.zero_le _) [] rfl
 · intro k p hk hp
   match k, hk, hp with
   | 0, _, hp => subst hp; exact .inl ⟨_, rfl, stepA0 kn kt xsh r q n0 t0 x n1 t1 y n2 t2 z []⟩
   | 1, _, hp => subst hp; exact .inl ⟨_, rfl, stepA1 kn kt xsh r q n0 t0 x n1 t1 y n2 t2 z _⟩
   | 2, _, hp => subst hp; exact .inl ⟨_, rfl, stepA2 kn kt xsh r q n0 t0 x n1 t1 y n2 t2 z _⟩
 · intro p hp
   subst hp
   refine ⟨_, ?_, rfl, ?_⟩
   · simp
   · show p137.ld bA137 (p137.lts bA137 (sA137 kn kt xsh r q n0 t0 (ents x) n1 t1 (ents y) n2 t2 (ents z) (least3 x y z) 3)) = _
     rw [t137A3]; rfl
abbrev sBk (p : Bys) (k : Nat) : Fr × Hp := sB137 kn kt xsh r q n0 t0 (ents x) n1 t1 (ents y) n2 t2 (ents z) n0 t0 (ents (pk 0 k (tailP p x) x)) n1 t1 (ents (pk 1 k (tailP p y) y)) n2 t2 (ents (pk 2 k (tailP p z) z))
 p (rcN (pk 0 k (headP p x) [])) (rcT (pk 0 k (headP p x) [])) (rows (pk 0 k (headP p x) [])) (rcN (pk 1 k (headP p y) [])) (rcT (pk 1 k (headP p y) [])) (rows (pk 1 k (headP p y) [])) (rcN (pk 2 k (headP p z) [])) (rcT (pk 2 k (headP p z) [])) (rows (pk 2 k (headP p z) [])) k
theorem rc_ne {l : List Row} (h : l ≠ []) : rcN l = none /\ rcT l = false := by cases l with | nil => exact absurd rfl h | cons a r => exact ⟨rfl, rfl⟩
theorem loopB (p : Bys) (hx : ∀ e ∈ x, e.2 ≠ []) (hy : ∀ e ∈ y, e.2 ≠ []) (hz : ∀ e ∈ z, e.2 ≠ []) : ∃ xx, xx = xB137 kn kt xsh r q n0 t0 (ents x) n1 t1 (ents y) n2 t2 (ents z) n0 t0 (ents (tailP p x)) n1 t1 (ents (tailP p y)) n2 t2 (ents (tailP p z))
   p (rcN (headP p x)) (rcT (headP p x)) (rows (headP p x)) (rcN (headP p y)) (rcT (headP p y)) (rows (headP p y)) (rcN (headP p z)) (rcT (headP p z)) (rows (headP p z)) /\ p137.Loops bB137 (sBk kn kt xsh r q n0 t0 x n1 t1 y n2 t2 z p 0) xx := by
 refine list_post (p := p137) hct137 (b := bB137) 3 (fun k (_ : Unit) => sBk kn kt xsh r q n0 t0 x n1 t1 y n2 t2 z p k) (fun _ _ => True) (fun xx => xx = _) ?_ ?_ 0 (Nat.zero_le _) () trivial
 · intro k _ hk _
   have hd : ∀ n : Nat, decide (n = n) = true := fun n => by simp
   have hle : ∀ n : Nat, decide (n <= n) = true := fun n => by simp
   match k, hk with
   | 0, _ =>
     refine .inl ⟨(), trivial, ?_⟩
     show p137.ld bB137 (p137.lts bB137 (sB137 kn kt xsh r q n0 t0 (ents x) n1 t1 (ents y) n2 t2 (ents z) n0 t0 (ents x) n1 t1 (ents y) n2 t2 (ents z) p (rcN []) (rcT []) (rows []) (rcN []) (rcT []) (rows []) (rcN []) (rcT []) (rows []) 0)) = _
     rw [t137B0]
     cases x with
     | nil => rfl
     | cons e l =>
       have h1 : (0 : Int) < ((ents (e :: l)).length : Nat) := by rw [ents_length, List.length_cons]; omega
       have h2 : Int.toNat 0 < (ents (e :: l)).length := by rw [ents_length, List.length_cons]; exact Nat.succ_pos _
       have h3 : (ents (e :: l)).getD (Int.toNat 0) [] = ee e := rfl
       have h5 : Int.toNat 1 <= (ents (e :: l)).length := h2
       obtain ⟨r1, r2⟩ := rc_ne (hx e (by simp))
       simp only [ld_br, ld_chk', ld_leaf, h1, h2, h3, h5, ee_ok, ee_p, ee_r, decide_true, if_true, hle, List.take_length, cutTight, Bool.and_true]
       cases c : e.1 == p with
       | false => simp only [Bool.false_eq_true, if_false, sBk, pk, Nat.zero_add, Nat.reduceLT, Nat.lt_irrefl, reduceIte, headP, tailP, c, cond_false]; rfl
       | true => simp only [if_true, sBk, pk, Nat.zero_add, Nat.reduceLT, Nat.lt_irrefl, reduceIte, headP, tailP, c, cond_true, r1, r2]; rfl
   | 1, _ =>
     refine .inl ⟨(), trivial, ?_⟩
     show p137.ld bB137 (p137.lts bB137 (sB137 kn kt xsh r q n0 t0 (ents x) n1 t1 (ents y) n2 t2 (ents z) n0 t0 (ents (tailP p x)) n1 t1 (ents y) n2 t2 (ents z) p (rcN (headP p x)) (rcT (headP p x)) (rows (headP p x)) (rcN []) (rcT []) (rows []) (rcN []) (rcT []) (rows []) 1)) = _
     rw [t137B1]
     cases y with
     | nil => rfl
     | cons e l =>
       have h1 : (0 : Int) < ((ents (e :: l)).length : Nat) := by rw [ents_length, List.length_cons]; omega
       have h2 : Int.toNat 0 < (ents (e :: l)).length := by rw [ents_length, List.length_cons]; exact Nat.succ_pos _
       have h3 : (ents (e :: l)).getD (Int.toNat 0) [] = ee e := rfl
       have h5 : Int.toNat 1 <= (ents (e :: l)).length := h2
       obtain ⟨r1, r2⟩ := rc_ne (hy e (by simp))
       simp only [ld_br, ld_chk', ld_leaf, h1, h2, h3, h5, ee_ok, ee_p, ee_r, decide_true, if_true, hle, List.take_length, cutTight, Bool.and_true]
       cases c : e.1 == p with
       | false => simp only [Bool.false_eq_true, if_false, sBk, pk, Nat.reduceAdd, Nat.reduceLT, Nat.lt_irrefl, reduceIte, headP, tailP, c, cond_false]; rfl
       | true => simp only [if_true, sBk, pk, Nat.reduceAdd, Nat.reduceLT, Nat.lt_irrefl, reduceIte, headP, tailP, c, cond_true, r1, r2]; rfl
   | 2, _ =>
     refine .inl ⟨(), trivial, ?_⟩
     show p137.ld bB137 (p137.lts bB137 (sB137 kn kt xsh r q n0 t0 (ents x) n1 t1 (ents y) n2 t2 (ents z) n0 t0 (ents (tailP p x)) n1 t1 (ents (tailP p y)) n2 t2 (ents z) p (rcN (headP p x)) (rcT (headP p x)) (rows (headP p x)) (rcN (headP p y)) (rcT (headP p y)) (rows (headP p y)) (rcN []) (rcT []) (rows []) 2)) = _
     rw [t137B2]
     cases z with
     | nil => rfl
     | cons e l =>
       have h1 : (0 : Int) < ((ents (e :: l)).length : Nat) := by rw [ents_length, List.length_cons]; omega
       have h2 : Int.toNat 0 < (ents (e :: l)).length := by rw [ents_length, List.length_cons]; exact Nat.succ_pos _
       have h3 : (ents (e :: l)).getD (Int.toNat 0) [] = ee e := rfl
       have h5 : Int.toNat 1 <= (ents (e :: l)).length := h2
       obtain ⟨r1, r2⟩ := rc_ne (hz e (by simp))
       simp only [ld_br, ld_chk', ld_leaf, h1, h2, h3, h5, ee_ok, ee_p, ee_r, decide_true, if_true, hle, List.take_length, cutTight, Bool.and_true]
       cases c : e.1 == p with
       | false => simp only [Bool.false_eq_true, if_false, sBk, pk, Nat.reduceAdd, Nat.reduceLT, reduceIte, headP, tailP, c, cond_false]; rfl
       | true => simp only [if_true, sBk, pk, Nat.reduceAdd, Nat.reduceLT, headP, tailP, c, cond_true, r1, r2]; rfl
 · intro _ _
   refine ⟨_, ?_, rfl, ?_⟩
   · simp
   · show p137.ld bB137 (p137.lts bB137 (sB137 kn kt xsh r q n0 t0 (ents x) n1 t1 (ents y) n2 t2 (ents z) n0 t0 (ents (tailP p x)) n1 t1 (ents (tailP p y)) n2 t2 (ents (tailP p z)) p (rcN (headP p x)) (rcT (headP p x)) (rows (headP p x)) (rcN (headP p y)) (rcT (headP p y)) (rows (headP p y)) (rcN (headP p z)) (rcT (headP p z)) (rows (headP p z)) 3)) = _
     rw [t137B3]; rfl
end
end Go.Proofs.YtgaabjmbnomimaaDoor
namespace Go.Proofs.YtgaabjmbnomimaaDoor
open Go Go.Ev
theorem bl_ge {e p q : List UInt8} (h : Op.bytesLess e p = false) (k : Op.bytesLess p q = false) : Op.bytesLess e q = false := by
 cases c : Op.bytesLess e q with
 | false => rfl
 | true =>
   cases d : Op.bytesLess q p with
   | true => rw [bl_trans c d] at h; cases h
   | false => rw [bl_total _ _ k d, c] at h; cases h
theorem bl_gt {p q : List UInt8} (h : Op.bytesLess q p = false) (k : q ≠ p) : Op.bytesLess p q = true := by
 cases c : Op.bytesLess p q with
 | true => rfl
 | false => exact absurd (bl_total _ _ h c) k
theorem look_in {l : List Ent} {e : Ent} (h : Rise l) (he : e ∈ l) : look l e.1 = e.2 := by
 induction l with
 | nil => cases he
 | cons a l ih =>
   rw [Rise, List.pairwise_cons] at h
   rw [look]
   rcases List.mem_cons.1 he with rfl | he
   · rw [if_pos rfl]
   · rw [if_neg (bl_ne (h.1 e he)), ih h.2 he]
theorem look_ex {l : List Ent} {q : List UInt8} (h : look l q ≠ []) : ∃ e ∈ l, e.1 = q := by
 induction l with
 | nil => exact absurd rfl h
 | cons a l ih =>
   rw [look] at h
   split at h
   · rename_i c; exact ⟨a, by simp, c⟩
   · obtain ⟨e, h1, h2⟩ := ih h; exact ⟨e, by simp [h1], h2⟩
theorem rise_ext : ∀ {x y : List Ent}, Rise x -> Rise y -> (∀ e ∈ x, e.2 ≠ []) -> (∀ e ∈ y, e.2 ≠ []) -> (∀ q, look x q = look y q) -> x = y
 | [], [], _, _, _, _, _ => rfl
 | [], e :: l, _, hy, _, ny, h => by
   have := h e.1
   rw [look_in hy (by simp)] at this
   exact absurd this.symm (ny e (by simp))
 | e :: l, [], hx, _, nx, _, h => by
   have := h e.1
   rw [look_in hx (by simp)] at this
   exact absurd this (nx e (by simp))
 | e :: l, d :: m, hx, hy, nx, ny, h => by
   have hx' := hx; have hy' := hy
   rw [Rise, List.pairwise_cons] at hx' hy'
   have key : ∀ {e d : Ent} {l m : List Ent}, Rise (e :: l) -> (∀ a ∈ m, Op.bytesLess d.1 a.1 = true) -> e.2 ≠ [] -> look (e :: l) e.1 = look (d :: m) e.1 -> Op.bytesLess e.1 d.1 = false := fun {e d l m} hx hm ne hh => by
     rw [look_in hx (by simp)] at hh
     obtain ⟨a, ha, hae⟩ := look_ex (l := d :: m) (q := e.1) (by rw [<- hh]; exact ne)
     rw [<- hae]
     rcases List.mem_cons.1 ha with rfl | ha
     · exact bl_irrefl _
     · exact bl_asymm (hm a ha)
   have e1 : e.1 = d.1 := bl_total _ _ (key hx hy'.1 (nx e (by simp)) (h e.1)) (key hy hx'.1 (ny d (by simp)) (h d.1).symm)
   have e2 : e.2 = d.2 := by
     have := h e.1
     rw [look_in hx (by simp), e1, look_in hy (by simp)] at this; exact this
   have ed : e = d := Prod.ext e1 e2
   subst ed
   have hl : l = m := by
     refine rise_ext hx'.2 hy'.2 (fun a ha => nx a (by simp [ha])) (fun a ha => ny a (by simp [ha])) fun q => ?_
     by_cases c : e.1 = q
     · rw [look_none fun a ha k => bl_ne (hx'.1 a ha) (by rw [k, c]), look_none fun a ha k => bl_ne (hy'.1 a ha) (by rw [k, c])]
     · have := h q
       rw [look, look, if_neg c, if_neg c] at this; exact this
   rw [hl]
abbrev Pne (x : List Ent) : Prop := ∀ e ∈ x, e.1 ≠ []
abbrev Rne (x : List Ent) : Prop := ∀ e ∈ x, e.2 ≠ []
abbrev Lo (p : Bys) (x : List Ent) : Prop := ∀ e ∈ x, Op.bytesLess e.1 p = false
theorem Lo.mono {p q : List UInt8} {x : List Ent} (h : Lo p x) (k : Op.bytesLess p q = false) : Lo q x := fun e he => bl_ge (h e he) k
theorem leastP_spec (p : Bys) {x : List Ent} (hx : Rise x) (nx : Pne x) :
   (leastP p x = [] ↔ p = [] /\ x = []) /\ Lo (leastP p x) x /\ (p ≠ [] -> Op.bytesLess p (leastP p x) = false) /\ (leastP p x = p \/ ∃ e ∈ x, leastP p x = e.1) := by
 cases x with
 | nil => exact ⟨by simp [leastP], by simp, fun _ => bl_irrefl _, .inl rfl⟩
 | cons e l =>
   have hne := nx e (by simp)
   have hlo : Lo e.1 (e :: l) := fun a ha => by
     rcases List.mem_cons.1 ha with rfl | ha
     · exact bl_irrefl _
     · rw [Rise, List.pairwise_cons] at hx; exact bl_asymm (hx.1 a ha)
   cases p with
   | nil => exact ⟨by simp [leastP, hne], hlo, fun h => absurd rfl h, .inr ⟨e, by simp, rfl⟩⟩
   | cons b q =>
     simp only [leastP]
     cases c : Op.bytesLess e.1 (b :: q) with
     | true => exact ⟨by simp [hne], hlo, fun _ => bl_asymm c, .inr ⟨e, by simp, rfl⟩⟩
     | false => exact ⟨by simp, hlo.mono c, fun _ => bl_irrefl _, .inl rfl⟩
theorem least3_spec {x y z : List Ent} (hx : Rise x) (hy : Rise y) (hz : Rise z) (nx : Pne x) (ny : Pne y) (nz : Pne z) :
   (leastP (leastP (leastP [] x) y) z = [] ↔ x = [] /\ y = [] /\ z = []) /\ Lo (leastP (leastP (leastP [] x) y) z) x /\ Lo (leastP (leastP (leastP [] x) y) z) y /\ Lo (leastP (leastP (leastP [] x) y) z) z ∧
   (leastP (leastP (leastP [] x) y) z ≠ [] -> ∃ e, (e ∈ x \/ e ∈ y \/ e ∈ z) /\ leastP (leastP (leastP [] x) y) z = e.1) := by
 obtain ⟨a1, a2, a3, a4⟩ := leastP_spec [] hx nx
 obtain ⟨b1, b2, b3, b4⟩ := leastP_spec (leastP [] x) hy ny
 obtain ⟨c1, c2, c3, c4⟩ := leastP_spec (leastP (leastP [] x) y) hz nz
 generalize leastP [] x = p at *
 generalize leastP p y = q at *
 generalize leastP q z = r at *
 have hqr : ∀ {w : List Ent}, Lo q w -> (q = [] -> w = []) -> Lo r w := fun {w} h k => by
   by_cases c : q = []
   · rw [k c]; simp
   · exact h.mono (c3 c)
 have hpq : ∀ {w : List Ent}, Lo p w -> (p = [] -> w = []) -> Lo q w := fun {w} h k => by
   by_cases c : p = []
   · rw [k c]; simp
   · exact h.mono (b3 c)
 refine ⟨by rw [c1, b1, a1]; simp [and_assoc], hqr (hpq a2 fun h => (a1.1 h).2) fun h => (a1.1 (b1.1 h).1).2, hqr b2 fun h => (b1.1 h).2, c2, fun hr => ?_⟩
 rcases c4 with c4 | ⟨e, he, c4⟩
 · rcases b4 with b4 | ⟨e, he, b4⟩
   · rcases a4 with a4 | ⟨e, he, a4⟩
     · exact absurd (by rw [c4, b4, a4]) hr
     · exact ⟨e, .inl he, by rw [c4, b4, a4]⟩
   · exact ⟨e, .inr (.inl he), by rw [c4, b4]⟩
 · exact ⟨e, .inr (.inr he), c4⟩
theorem headP_look {p : List UInt8} {x : List Ent} (hx : Rise x) (h : Lo p x) : headP p x = look x p := by
 cases x with
 | nil => rfl
 | cons e l =>
   rw [headP, look]
   by_cases c : e.1 = p
   · rw [if_pos c, beq_iff_eq.2 c]; rfl
   · rw [if_neg c, beq_eq_false_iff_ne.2 c]
     rw [Rise, List.pairwise_cons] at hx
     have h1 := bl_gt (h e (by simp)) c
     exact (look_none fun a ha k => bl_ne (bl_trans h1 (hx.1 a ha)) k.symm).symm
theorem tailP_sub (p : Bys) (x : List Ent) : (tailP p x).Sublist x := by
 cases x with
 | nil => exact .slnil
 | cons e l => rw [tailP]; cases e.1 == p with | true => exact List.sublist_cons_self _ _ | false => exact List.Sublist.refl _
theorem tailP_gt {p : List UInt8} {x : List Ent} (hx : Rise x) (h : Lo p x) : ∀ e ∈ tailP p x, Op.bytesLess p e.1 = true := by
 cases x with
 | nil => simp [tailP]
 | cons e l =>
   intro a ha
   rw [Rise, List.pairwise_cons] at hx
   rw [tailP] at ha
   cases c : e.1 == p with
   | true =>
     rw [c] at ha
     have := hx.1 a ha
     rw [beq_iff_eq.1 c] at this; exact this
   | false =>
     rw [c] at ha
     have h1 := bl_gt (h e (by simp)) (beq_eq_false_iff_ne.1 c)
     rcases List.mem_cons.1 ha with rfl | ha
     · exact h1
     · exact bl_trans h1 (hx.1 a ha)
theorem tailP_look {p q : List UInt8} {x : List Ent} (hq : q ≠ p) : look (tailP p x) q = look x q := by
 cases x with
 | nil => rfl
 | cons e l =>
   rw [tailP, look]
   cases c : e.1 == p with
   | true => rw [if_neg (by rw [beq_iff_eq.1 c]; exact fun h => hq h.symm)]; rfl
   | false => rfl
theorem tailP_len {p : List UInt8} {x : List Ent} (hx : Rise x) (h : Lo p x) {e : Ent} (he : e ∈ x) (hp : p = e.1) : (tailP p x).length < x.length := by
 cases x with
 | nil => cases he
 | cons a l =>
   have : (a.1 == p) = true := by
     rw [beq_iff_eq]
     rcases List.mem_cons.1 he with rfl | he
     · exact hp.symm
     · rw [Rise, List.pairwise_cons] at hx
       have h1 := hx.1 e he
       rw [<- hp, h a (by simp)] at h1; cases h1
   rw [tailP, this]; simp
theorem sidesF_end (f : Nat) {x y z : List Ent} (h : leastP (leastP (leastP [] x) y) z = []) : sidesF (f + 1) x y z = [] := by rw [sidesF, h]
theorem sidesF_step (f : Nat) {x y z : List Ent} {p : List UInt8} (h : leastP (leastP (leastP [] x) y) z = p) (hp : p ≠ []) :
   sidesF (f + 1) x y z = ⟨p, headP p x, headP p y, headP p z⟩ :: sidesF f (tailP p x) (tailP p y) (tailP p z) := by
 rw [sidesF, h]
 cases p with
 | nil => exact absurd rfl hp
 | cons b q => rfl
structure SP (x y z : List Ent) (S : List Sd) : Prop where
 rise : S.Pairwise fun s t => Op.bytesLess s.p t.p = true
 ne : ∀ s ∈ S, s.p ≠ []
 a : ∀ s ∈ S, s.a = look x s.p
 b : ∀ s ∈ S, s.b = look y s.p
 c : ∀ s ∈ S, s.c = look z s.p
 mem : ∀ s ∈ S, ∃ e, (e ∈ x \/ e ∈ y \/ e ∈ z) /\ e.1 = s.p
 all : ∀ e, e ∈ x \/ e ∈ y \/ e ∈ z -> ∃ s ∈ S, s.p = e.1
theorem sidesF_spec : ∀ (f : Nat) (x y z : List Ent), x.length + y.length + z.length < f -> Rise x -> Rise y -> Rise z -> Pne x -> Pne y -> Pne z -> SP x y z (sidesF f x y z)
 | 0, x, y, z, h, _, _, _, _, _, _ => by omega
 | f + 1, x, y, z, h, hx, hy, hz, nx, ny, nz => by
   obtain ⟨h1, h2, h3, h4, h5⟩ := least3_spec hx hy hz nx ny nz
   generalize hp : leastP (leastP (leastP [] x) y) z = p at *
   by_cases c : p = []
   · subst c
     obtain ⟨rfl, rfl, rfl⟩ := h1.1 rfl
     rw [sidesF_end f hp]
     exact ⟨.nil, by simp, by simp, by simp, by simp, by simp, by simp⟩
   · rw [sidesF_step f hp c]
     have sx := tailP_sub p x; have sy := tailP_sub p y; have sz := tailP_sub p z
     have hlen : (tailP p x).length + (tailP p y).length + (tailP p z).length < f := by
       obtain ⟨e, he, hpe⟩ := h5 c
       have l1 := sx.length_le; have l2 := sy.length_le; have l3 := sz.length_le
       rcases he with he | he | he
       · have := tailP_len hx h2 he hpe; omega
       · have := tailP_len hy h3 he hpe; omega
       · have := tailP_len hz h4 he hpe; omega
     have ih := sidesF_spec f (tailP p x) (tailP p y) (tailP p z) hlen (hx.sublist sx) (hy.sublist sy) (hz.sublist sz) (fun e he => nx e (sx.subset he)) (fun e he => ny e (sy.subset he)) (fun e he => nz e (sz.subset he))
     have hgt : ∀ s ∈ sidesF f (tailP p x) (tailP p y) (tailP p z), Op.bytesLess p s.p = true := fun s hs => by
       obtain ⟨e, he, hpe⟩ := ih.mem s hs
       rw [<- hpe]
       rcases he with he | he | he
       · exact tailP_gt hx h2 e he
       · exact tailP_gt hy h3 e he
       · exact tailP_gt hz h4 e he
     have hne : ∀ s ∈ sidesF f (tailP p x) (tailP p y) (tailP p z), s.p ≠ p := fun s hs k => bl_ne (hgt s hs) k.symm
     refine ⟨List.pairwise_cons.2 ⟨hgt, ih.rise⟩, ?_, ?_, ?_, ?_, ?_, ?_⟩
     · intro s hs
       rcases List.mem_cons.1 hs with rfl | hs
       · exact c
       · exact ih.ne s hs
     · intro s hs
       rcases List.mem_cons.1 hs with rfl | hs
       · exact headP_look hx h2
       · rw [ih.a s hs, tailP_look (hne s hs)]
     · intro s hs
       rcases List.mem_cons.1 hs with rfl | hs
       · exact headP_look hy h3
       · rw [ih.b s hs, tailP_look (hne s hs)]
     · intro s hs
       rcases List.mem_cons.1 hs with rfl | hs
       · exact headP_look hz h4
       · rw [ih.c s hs, tailP_look (hne s hs)]
     · intro s hs
       rcases List.mem_cons.1 hs with rfl | hs
       · obtain ⟨e, he, hpe⟩ := h5 c
         exact ⟨e, he, hpe.symm⟩
       · obtain ⟨e, he, hpe⟩ := ih.mem s hs
         exact ⟨e, he.imp (fun h => sx.subset h) (Or.imp (fun h => sy.subset h) fun h => sz.subset h), hpe⟩
     · intro e he
       have tl : ∀ {w : List Ent}, Lo p w -> e ∈ w -> e.1 = p \/ e ∈ tailP p w := fun {w} hw hew => by
         by_cases k : e.1 = p
         · exact .inl k
         · right
           cases w with
           | nil => cases hew
           | cons d l =>
             rw [tailP]
             cases k2 : d.1 == p with
             | false => exact hew
             | true =>
               rcases List.mem_cons.1 hew with rfl | hew
               · exact absurd (beq_iff_eq.1 k2) k
               · exact hew
       have hh : e.1 = p \/ (e ∈ tailP p x \/ e ∈ tailP p y \/ e ∈ tailP p z) := by
         rcases he with he | he | he
         · exact (tl h2 he).imp id .inl
         · exact (tl h3 he).imp id fun h => .inr (.inl h)
         · exact (tl h4 he).imp id fun h => .inr (.inr h)
       rcases hh with hh | hh
       · exact ⟨_, List.mem_cons_self, hh.symm⟩
       · obtain ⟨s, hs, hp⟩ := ih.all e hh
         exact ⟨s, by simp [hs], hp⟩
structure Gd (x : List Ent) : Prop where
 rise : Rise x
 pne : Pne x
 rne : Rne x
 len : ∀ e ∈ x, e.1.length <= 24
 right : ∀ e ∈ x, right e.2 = true
theorem sidesP_spec {x y z : List Ent} (hx : Gd x) (hy : Gd y) (hz : Gd z) : SP x y z (sidesP x y z) :=
 sidesF_spec _ x y z (Nat.lt_succ_self _) hx.rise hy.rise hz.rise hx.pne hy.pne hz.pne
theorem Gd.nil : Gd [] := ⟨.nil, by simp, by simp, by simp, by simp⟩
mutual
theorem entT_len24 : ∀ (t : Nd) (n : Nat), okT t n = true -> ∀ e ∈ entT t, e.1.length <= n
 | .node s rs ks, n, h, e, he => by
   obtain ⟨g1, g2, g3, g4, g5⟩ := okT_iff.1 h
   simp only [Nd.lab_node, Nd.kids_node] at g2 g5
   rw [entT] at he
   rcases List.mem_append.1 he with he | he
   · split at he
     · cases he
     · simp only [List.mem_singleton] at he; subst he; exact g2
   · obtain ⟨d, hd, rfl⟩ := List.mem_map.1 he
     have := entL_len24 ks _ g5 d hd
     simp only [List.length_append]; omega
theorem entL_len24 : ∀ (l : List Nd) (n : Nat), kidsOk l n -> ∀ e ∈ entL l, e.1.length <= n
 | [], _, _, e, he => by simp [entL] at he
 | t :: r, n, h, e, he => by
   rw [entL] at he
   rcases List.mem_append.1 he with he | he
   · exact entT_len24 t n (h.1 t (by simp)) e he
   · exact entL_len24 r n (kidsOk_sub h (List.sublist_cons_self _ _)) e he
end
theorem gd_ent {t : Nd} (h : okR t = true) : Gd (entR t) :=
 have hk := (okR_iff.1 h).2.2
 ⟨entR_rise h, entL_ne_nil hk, entL_ne _, entL_len24 _ _ hk, entL_right _ _ hk⟩
theorem entP_R {t : Nd} (h : okR t = true) : entP t = entR t := by rw [entP, h]; rfl
theorem gd_entP (t : Nd) : Gd (entP t) := by
 rw [entP]
 cases h : okR t with
 | false => exact Gd.nil
 | true => exact gd_ent h
theorem getR_P (t : Nd) (q : Bys) : getR t q = look (entP t) q := by
 rw [getR_look, entP]
 cases okR t <;> rfl
theorem entP_inj {t u : Nd} (h : okR t = true) (k : okR u = true) (e : entR t = entR u) : t = u := by
 obtain ⟨a1, a2, _⟩ := okR_iff.1 h
 obtain ⟨b1, b2, _⟩ := okR_iff.1 k
 have e1 := of_ent h (f := sizeL t.kids + sizeL u.kids) (by omega)
 have e2 := of_ent k (f := sizeL t.kids + sizeL u.kids) (by omega)
 rw [e] at e1
 have e3 : t.kids = u.kids := e1.symm.trans e2
 cases t; cases u
 simp only [Nd.lab_node, Nd.rows_node, Nd.kids_node] at a1 a2 b1 b2 e3
 rw [a1, a2, b1, b2, e3]
def bad3 (a b c : List Row) : Bool := decide (b ≠ c /\ a ≠ c /\ a ≠ b)
def met3 (a b c : List Row) : List Row := if b = c \/ a = c then b else c
def badS (s : Sd) : Bool := bad3 s.a s.b s.c
def metS (s : Sd) : List Row := met3 s.a s.b s.c
def gM (s : Sd) : Option (List Row) := if badS s = true then none else some (metS s)
def nd0 : Nd := .node [] [] []
theorem nd0_ok : okR nd0 = true := rfl
def putsF (g : Sd -> Option (List Row)) : Nd -> List Sd -> Nd
 | t, [] => t
 | t, s :: r => putsF g (match g s with | some l => putR t s.p l | none => t) r
def mkE (g : Sd -> Option (List Row)) : List Sd -> List Ent
 | [] => []
 | s :: r => (match g s with | some (a :: l) => [(s.p, a :: l)] | _ => []) ++ mkE g r
theorem mkE_look {g : Sd -> Option (List Row)} {S : List Sd} {q : List UInt8} {v : List Row} (h1 : ∀ s ∈ S, s.p = q -> g s = some v \/ (g s = none /\ v = [])) (h2 : v ≠ [] -> ∃ s ∈ S, s.p = q) : look (mkE g S) q = v := by
 induction S with
 | nil =>
   by_cases c : v = []
   · rw [c]; rfl
   · obtain ⟨s, hs, _⟩ := h2 c; cases hs
 | cons s r ih =>
   rw [mkE]
   by_cases c : s.p = q
   · rcases h1 s (by simp) c with k | ⟨k, rfl⟩
     · rw [k]
       cases v with
       | nil => exact ih (fun t ht => h1 t (by simp [ht])) (fun h => absurd rfl h)
       | cons a l => simp [look, c]
     · rw [k]; exact ih (fun t ht => h1 t (by simp [ht])) (fun h => absurd rfl h)
   · have hl : look (mkE g r) q = v := ih (fun t ht => h1 t (by simp [ht])) fun h => by
       obtain ⟨t, ht, hp⟩ := h2 h
       rcases List.mem_cons.1 ht with rfl | ht
       · exact absurd hp c
       · exact ⟨t, ht, hp⟩
     split
     · simp only [List.singleton_append, look, if_neg c]; exact hl
     · exact hl
theorem putsF_ent {g : Sd -> Option (List Row)} : ∀ {S : List Sd} {t : Nd}, okR t = true -> (S.Pairwise fun s u => Op.bytesLess s.p u.p = true) -> (∀ s ∈ S, s.p ≠ [] /\ s.p.length <= 24) -> (∀ s ∈ S, ∀ l, g s = some l -> right l = true) →
   (∀ e ∈ entR t, ∀ s ∈ S, Op.bytesLess e.1 s.p = true) -> okR (putsF g t S) = true /\ entR (putsF g t S) = entR t ++ mkE g S
 | [], t, h, _, _, _, _ => ⟨h, by simp [putsF, mkE]⟩
 | s :: r, t, h, hr, hp, hg, hl => by
   rw [List.pairwise_cons] at hr
   rw [putsF, mkE]
   have go : ∀ {u : Nd} {X : List Ent}, okR u = true -> entR u = entR t ++ X -> (∀ e ∈ X, e.1 = s.p) -> okR (putsF g u r) = true /\ entR (putsF g u r) = entR t ++ (X ++ mkE g r) := fun {u X} hu he hx => by
     have := putsF_ent (g := g) (S := r) hu hr.2 (fun a ha => hp a (by simp [ha])) (fun a ha => hg a (by simp [ha])) (fun e hee a ha => by
       rw [he] at hee
       rcases List.mem_append.1 hee with hee | hee
       · exact hl e hee a (by simp [ha])
       · rw [hx e hee]; exact hr.1 a ha)
     rw [he, List.append_assoc] at this; exact this
   cases hgs : g s with
   | none => exact go (X := []) h (by simp) (by simp)
   | some l =>
     obtain ⟨k1, k2⟩ := putR_ok h (hp s (by simp)).1 (hp s (by simp)).2 (hg s (by simp) l hgs)
     have k3 : entR (putR t s.p l) = entR t ++ (if l = [] then [] else [(s.p, l)]) := by
       refine k2.trans ?_
       have := insE_lt (A := entR t) (l := []) (p := s.p) (r := l) fun e he => hl e he s (by simp)
       rw [List.append_nil] at this
       exact this
     cases l with
     | nil => exact go (X := []) k1 (by simpa using k3) (by simp)
     | cons a l => exact go (X := [(s.p, a :: l)]) k1 (by simpa using k3) (by simp)
end Go.Proofs.YtgaabjmbnomimaaDoor
