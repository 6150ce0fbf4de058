/-
  Chapter 12 (graph): the trees of graph's check, written by a program: each is what the kernel computes; Chapter 12 (graph): what graph's check computes; Chapter 12 (graph): more trees of graph's check, written by a program; Chapter 12 (graph): ContainsFunc, fault; Chapter 12 (graph): trees of fault, written by a program; Chapter 12 (graph): fault; Chapter 12 (graph): trees, written by a program; Chapter 12 (graph): Check, few; Chapter 12 (graph): has, reach, list; Chapter 30 (cherry), plain: worlds; picks, reverts; what is known of each as a callee; Chapter 30 (cherry), trees, written by a pro.
-/
import Derived.Test.YtgaabjmbnomimaaDoorARunD
import Derived.Test.YtgaabjmbnomimaaDoorRP1
import Derived.Test.YtgaabjmbnomimaaDoorQT4
set_option linter.all false
namespace Go.Proofs.YtgaabjmbnomimaaDoor.Gr
open Go Go.Ev
noncomputable abbrev p167 : Par := par E sh (ctOf []) 167 2 1
noncomputable abbrev p168 : Par := par E sh (ctOf []) 168 3 2
noncomputable abbrev p114 : Par := par E sh (ctOf []) 114 2 1
theorem t167 (n : Int) (nl : OBo) (t : Bool) (xs : LLC) : p167.ft [V.i n, V.ptr 0 0 0 0] [O.box [V.c (C.sl 2 nl t xs)]] = Tr.br (decide (n < 1)) (Tr.leaf (R.out [V.c (C.bool true)] [O.box [V.c (C.sl 2 nl t xs)]])) (Tr.leaf (R.out [V.c (C.bool (decide ((↑xs.length : Int) < n)))] [O.box [V.c (C.sl 2 nl t xs)]])) := by kernel_rfl
theorem t168 (n : Int) (nl : OBo) (t : Bool) (xs : LLC) (c : C) (st : Int) : p168.ft [V.i n, V.ptr 0 0 0 0, V.ptr 1 0 0 0] [O.box [V.c (C.sl 2 nl t xs)], O.box [V.c c, V.i st]] = Tr.chk (decide (0 ≤ IntKind.i64.wrap (n - 1))) (Tr.chk true (Tr.chk (decide ((IntKind.i64.wrap (n - 1)).toNat < xs.length)) (Tr.chk (shOk [Sk.sl 1, Sk.int IntKind.i64] (xs.getD (IntKind.i64.wrap (n - 1)).toNat [])) (Tr.leaf (R.out [V.c (C.bool (decide (st ≤ ((xs.getD (IntKind.i64.wrap (n - 1)).toNat []).tail.headD C.pnil).i)))] [O.box [V.c (C.sl 2 nl t xs)], O.box [V.c c, V.c (C.int IntKind.i64 st)]]))))) := by kernel_rfl
theorem t114 (n : Int) (nl : OBo) (t : Bool) (xs : LLC) : p114.ft [V.i n, V.ptr 0 0 0 0] [O.box [V.c (C.sl 2 nl t xs)]] = Tr.br (decide (n < 1)) (Tr.leaf (R.out [V.c (C.bool true)] [O.box [V.c (C.sl 2 nl t xs)]])) (Tr.leaf (R.out [V.c (C.bool (decide ((↑xs.length : Int) < n)))] [O.box [V.c (C.sl 2 nl t xs)]])) := by kernel_rfl
noncomputable abbrev p51a : Par := par E sh (ctOf [(167, s167)]) 143 2 1
noncomputable abbrev p51c : Par := par E sh (ctOf [(114, s114)]) 143 2 1
noncomputable abbrev p51b : Par := par E sh (ctOf [(168, s168)]) 143 2 2
noncomputable abbrev b143 : Code := loopAt (codeOf E 143) 0
theorem t51a (nl : OBo) (t : Bool) (xs : LLC) (nl2 : OBo) (t2 : Bool) (ys : LLC) : p51a.ft [V.c (C.sl 1 nl t xs), V.fn 167 [V.ptr 0 0 0 0]] [O.box [V.c (C.sl 2 nl2 t2 ys)]] = Tr.lp 0 [(0, V.c (C.sl 1 nl t xs)), (1, V.fn 167 [V.ptr 0 0 0 0]), (7, V.c (C.int IntKind.i64 (↑xs.length : Int))), (8, V.c (C.int IntKind.i64 0))] [O.box [V.c (C.sl 2 nl2 t2 ys)]] := by kernel_rfl
theorem t51a_0 (nl : OBo) (t : Bool) (xs : LLC) (m : Int) (i : Int) (nl2 : OBo) (t2 : Bool) (ys : LLC) : p51a.lt b143 [(0, V.c (C.sl 1 nl t xs)), (1, V.fn 167 [V.ptr 0 0 0 0]), (7, V.i m), (8, V.i i)] [O.box [V.c (C.sl 2 nl2 t2 ys)]] = Tr.br (decide (i < m)) (Tr.chk (decide (0 ≤ i)) (Tr.chk true (Tr.chk (decide (i.toNat < xs.length)) (Tr.chk (shOk [Sk.int IntKind.i64] (xs.getD i.toNat [])) (Tr.br (noNum ys.length ((xs.getD i.toNat []).headD C.pnil).i) (Tr.leaf (R.st Ex.ret [(4, V.c (C.int IntKind.i64 i))] [O.box [V.c (C.sl 2 nl2 t2 ys)]])) (Tr.leaf (R.st Ex.nrm [(0, V.c (C.sl 1 nl t xs)), (1, V.fn 167 [V.ptr 0 0 0 0]), (7, V.c (C.int IntKind.i64 m)), (8, V.c (C.int IntKind.i64 (IntKind.i64.wrap (i + 1))))] [O.box [V.c (C.sl 2 nl2 t2 ys)]]))))))) (Tr.leaf (R.st (Ex.exit 0) [(0, V.c (C.sl 1 nl t xs)), (1, V.fn 167 [V.ptr 0 0 0 0]), (7, V.c (C.int IntKind.i64 m)), (8, V.c (C.int IntKind.i64 i)), (9, V.c (C.bool false))] [O.box [V.c (C.sl 2 nl2 t2 ys)]])) := by kernel_rfl
theorem t51a_0x0 (i : Int) (nl2 : OBo) (t2 : Bool) (ys : LLC) : p51a.fk 0 Ex.ret [(4, V.c (C.int IntKind.i64 i))] [O.box [V.c (C.sl 2 nl2 t2 ys)]] = Tr.leaf (R.out [V.c (C.int IntKind.i64 i)] [O.box [V.c (C.sl 2 nl2 t2 ys)]]) := by kernel_rfl
theorem t51a_0x1 (nl : OBo) (t : Bool) (xs : LLC) (m : Int) (i : Int) (nl2 : OBo) (t2 : Bool) (ys : LLC) : p51a.fk 0 (Ex.exit 0) [(0, V.c (C.sl 1 nl t xs)), (1, V.fn 167 [V.ptr 0 0 0 0]), (7, V.c (C.int IntKind.i64 m)), (8, V.c (C.int IntKind.i64 i)), (9, V.c (C.bool false))] [O.box [V.c (C.sl 2 nl2 t2 ys)]] = Tr.leaf (R.out [V.c (C.int IntKind.i64 (-1))] [O.box [V.c (C.sl 2 nl2 t2 ys)]]) := by kernel_rfl
theorem t51c (nl : OBo) (t : Bool) (xs : LLC) (nl2 : OBo) (t2 : Bool) (ys : LLC) : p51c.ft [V.c (C.sl 1 nl t xs), V.fn 114 [V.ptr 0 0 0 0]] [O.box [V.c (C.sl 2 nl2 t2 ys)]] = Tr.lp 0 [(0, V.c (C.sl 1 nl t xs)), (1, V.fn 114 [V.ptr 0 0 0 0]), (7, V.c (C.int IntKind.i64 (↑xs.length : Int))), (8, V.c (C.int IntKind.i64 0))] [O.box [V.c (C.sl 2 nl2 t2 ys)]] := by kernel_rfl
theorem t51c_0 (nl : OBo) (t : Bool) (xs : LLC) (m : Int) (i : Int) (nl2 : OBo) (t2 : Bool) (ys : LLC) : p51c.lt b143 [(0, V.c (C.sl 1 nl t xs)), (1, V.fn 114 [V.ptr 0 0 0 0]), (7, V.i m), (8, V.i i)] [O.box [V.c (C.sl 2 nl2 t2 ys)]] = Tr.br (decide (i < m)) (Tr.chk (decide (0 ≤ i)) (Tr.chk true (Tr.chk (decide (i.toNat < xs.length)) (Tr.chk (shOk [Sk.int IntKind.i64] (xs.getD i.toNat [])) (Tr.br (noNum ys.length ((xs.getD i.toNat []).headD C.pnil).i) (Tr.leaf (R.st Ex.ret [(4, V.c (C.int IntKind.i64 i))] [O.box [V.c (C.sl 2 nl2 t2 ys)]])) (Tr.leaf (R.st Ex.nrm [(0, V.c (C.sl 1 nl t xs)), (1, V.fn 114 [V.ptr 0 0 0 0]), (7, V.c (C.int IntKind.i64 m)), (8, V.c (C.int IntKind.i64 (IntKind.i64.wrap (i + 1))))] [O.box [V.c (C.sl 2 nl2 t2 ys)]]))))))) (Tr.leaf (R.st (Ex.exit 0) [(0, V.c (C.sl 1 nl t xs)), (1, V.fn 114 [V.ptr 0 0 0 0]), (7, V.c (C.int IntKind.i64 m)), (8, V.c (C.int IntKind.i64 i)), (9, V.c (C.bool false))] [O.box [V.c (C.sl 2 nl2 t2 ys)]])) := by kernel_rfl
theorem t51c_0x0 (i : Int) (nl2 : OBo) (t2 : Bool) (ys : LLC) : p51c.fk 0 Ex.ret [(4, V.c (C.int IntKind.i64 i))] [O.box [V.c (C.sl 2 nl2 t2 ys)]] = Tr.leaf (R.out [V.c (C.int IntKind.i64 i)] [O.box [V.c (C.sl 2 nl2 t2 ys)]]) := by kernel_rfl
theorem t51c_0x1 (nl : OBo) (t : Bool) (xs : LLC) (m : Int) (i : Int) (nl2 : OBo) (t2 : Bool) (ys : LLC) : p51c.fk 0 (Ex.exit 0) [(0, V.c (C.sl 1 nl t xs)), (1, V.fn 114 [V.ptr 0 0 0 0]), (7, V.c (C.int IntKind.i64 m)), (8, V.c (C.int IntKind.i64 i)), (9, V.c (C.bool false))] [O.box [V.c (C.sl 2 nl2 t2 ys)]] = Tr.leaf (R.out [V.c (C.int IntKind.i64 (-1))] [O.box [V.c (C.sl 2 nl2 t2 ys)]]) := by kernel_rfl
theorem t51b (nl : OBo) (t : Bool) (xs : LLC) (nl2 : OBo) (t2 : Bool) (ys : LLC) (c : C) (st : Int) : p51b.ft [V.c (C.sl 1 nl t xs), V.fn 168 [V.ptr 0 0 0 0, V.ptr 1 0 0 0]] [O.box [V.c (C.sl 2 nl2 t2 ys)], O.box [V.c c, V.i st]] = Tr.lp 0 [(0, V.c (C.sl 1 nl t xs)), (1, V.fn 168 [V.ptr 0 0 0 0, V.ptr 1 0 0 0]), (7, V.c (C.int IntKind.i64 (↑xs.length : Int))), (8, V.c (C.int IntKind.i64 0))] [O.box [V.c (C.sl 2 nl2 t2 ys)], O.box [V.c c, V.c (C.int IntKind.i64 st)]] := by kernel_rfl
theorem t51b_0 (nl : OBo) (t : Bool) (xs : LLC) (m : Int) (i : Int) (nl2 : OBo) (t2 : Bool) (ys : LLC) (c : C) (st : Int) : p51b.lt b143 [(0, V.c (C.sl 1 nl t xs)), (1, V.fn 168 [V.ptr 0 0 0 0, V.ptr 1 0 0 0]), (7, V.i m), (8, V.i i)] [O.box [V.c (C.sl 2 nl2 t2 ys)], O.box [V.c c, V.i st]] = Tr.br (decide (i < m)) (Tr.chk (decide (0 ≤ i)) (Tr.chk true (Tr.chk (decide (i.toNat < xs.length)) (Tr.chk (shOk [Sk.int IntKind.i64] (xs.getD i.toNat [])) (Tr.chk (isRepo ys) (Tr.chk (!noNum ys.length ((xs.getD i.toNat []).headD C.pnil).i) (Tr.chk (decide (ys.length ≤ 500)) (Tr.br (lateFor (toRepo ys) st ((xs.getD i.toNat []).headD C.pnil).i) (Tr.leaf (R.st Ex.ret [(4, V.c (C.int IntKind.i64 i))] [O.box [V.c (C.sl 2 nl2 t2 ys)], O.box [V.c c, V.c (C.int IntKind.i64 st)]])) (Tr.leaf (R.st Ex.nrm [(0, V.c (C.sl 1 nl t xs)), (1, V.fn 168 [V.ptr 0 0 0 0, V.ptr 1 0 0 0]), (7, V.c (C.int IntKind.i64 m)), (8, V.c (C.int IntKind.i64 (IntKind.i64.wrap (i + 1))))] [O.box [V.c (C.sl 2 nl2 t2 ys)], O.box [V.c c, V.c (C.int IntKind.i64 st)]])))))))))) (Tr.leaf (R.st (Ex.exit 0) [(0, V.c (C.sl 1 nl t xs)), (1, V.fn 168 [V.ptr 0 0 0 0, V.ptr 1 0 0 0]), (7, V.c (C.int IntKind.i64 m)), (8, V.c (C.int IntKind.i64 i)), (9, V.c (C.bool false))] [O.box [V.c (C.sl 2 nl2 t2 ys)], O.box [V.c c, V.c (C.int IntKind.i64 st)]])) := by kernel_rfl
theorem t51b_0x0 (i : Int) (nl2 : OBo) (t2 : Bool) (ys : LLC) (c : C) (st : Int) : p51b.fk 0 Ex.ret [(4, V.c (C.int IntKind.i64 i))] [O.box [V.c (C.sl 2 nl2 t2 ys)], O.box [V.c c, V.c (C.int IntKind.i64 st)]] = Tr.leaf (R.out [V.c (C.int IntKind.i64 i)] [O.box [V.c (C.sl 2 nl2 t2 ys)], O.box [V.c c, V.c (C.int IntKind.i64 st)]]) := by kernel_rfl
theorem t51b_0x1 (nl : OBo) (t : Bool) (xs : LLC) (m : Int) (i : Int) (nl2 : OBo) (t2 : Bool) (ys : LLC) (c : C) (st : Int) : p51b.fk 0 (Ex.exit 0) [(0, V.c (C.sl 1 nl t xs)), (1, V.fn 168 [V.ptr 0 0 0 0, V.ptr 1 0 0 0]), (7, V.c (C.int IntKind.i64 m)), (8, V.c (C.int IntKind.i64 i)), (9, V.c (C.bool false))] [O.box [V.c (C.sl 2 nl2 t2 ys)], O.box [V.c c, V.c (C.int IntKind.i64 st)]] = Tr.leaf (R.out [V.c (C.int IntKind.i64 (-1))] [O.box [V.c (C.sl 2 nl2 t2 ys)], O.box [V.c c, V.c (C.int IntKind.i64 st)]]) := by kernel_rfl
end Go.Proofs.YtgaabjmbnomimaaDoor.Gr
namespace Go.Proofs.YtgaabjmbnomimaaDoor.Gr
open Go Go.Ev
theorem noNum_if (len : Nat) (n : Int) : (if n < 1 then true else decide ((len : Int) < n)) = noNum len n := by
  unfold noNum
  by_cases h : n < 1 <;> simp [h]
theorem f167 (n : Int) (nl : OBo) (t : Bool) (xs : LLC) : call E 167 [V.i n, .ptr 0 0 0 0] [.box [.c (.sl 2 nl t xs)]] = some ([V.b (noNum xs.length n)], [.box [.c (.sl 2 nl t xs)]]) := by
  refine call_of (E := E) (sh := sh) (ct := ctOf []) (na := 2) (m := 1) ctOf_nil rfl rfl rfl rfl rfl rfl ?_
  rw [t167, fd_br]
  simp only [fd_leaf, decide_eq_true_eq, ← noNum_if]
  split <;> rfl
theorem f114 (n : Int) (nl : OBo) (t : Bool) (xs : LLC) : call E 114 [V.i n, .ptr 0 0 0 0] [.box [.c (.sl 2 nl t xs)]] = some ([V.b (noNum xs.length n)], [.box [.c (.sl 2 nl t xs)]]) := by
  refine call_of (E := E) (sh := sh) (ct := ctOf []) (na := 2) (m := 1) ctOf_nil rfl rfl rfl rfl rfl rfl ?_
  rw [t114, fd_br]
  simp only [fd_leaf, decide_eq_true_eq, ← noNum_if]
  split <;> rfl
theorem f168 (n : Int) (nl : OBo) (t : Bool) (l : List Cm) (c : C) (st : Int) (hl : l.length ≤ 500) (hn : noNum l.length n = false) :
    call E 168 [V.i n, .ptr 0 0 0 0, .ptr 1 0 0 0] [.box [.c (.sl 2 nl t (repo l))], .box [.c c, V.i st]] = some ([V.b (lateFor l st n)], [.box [.c (.sl 2 nl t (repo l))], .box [.c c, V.i st]]) := by
  refine call_of (E := E) (sh := sh) (ct := ctOf []) (na := 3) (m := 2) ctOf_nil rfl rfl rfl rfl rfl rfl ?_
  simp only [noNum, Bool.or_eq_false_iff, decide_eq_false_iff_not] at hn
  have hw := wrap_same (n := n - 1) (by omega) (by omega)
  have hi : (n - 1).toNat < l.length := by omega
  rw [t168, hw, fd_chk (by simp; omega), fd_chk rfl, fd_chk (by simpa using hi), repo_getD hi, fd_chk (ec_ok _), fd_leaf]
  have hg : l.getD (n - 1).toNat ([], 0) = l[(n - 1).toNat] := by rw [List.getD_eq_getElem?_getD, List.getElem?_eq_getElem hi]; rfl
  rw [ec_stamp, lateFor, hg]
theorem s167_ok : CSpecOk E 167 s167 := by
  intro a h cs vals h' he hc
  unfold s167 at he
  split at he <;> simp only [Option.some.injEq, Prod.mk.injEq, reduceCtorEq] at he
  obtain ⟨rfl, rfl, rfl⟩ := he
  exact f167 _ _ _ _
theorem s114_ok : CSpecOk E 114 s114 := by
  intro a h cs vals h' he hc
  unfold s114 s167 at he
  split at he <;> simp only [Option.some.injEq, Prod.mk.injEq, reduceCtorEq] at he
  obtain ⟨rfl, rfl, rfl⟩ := he
  exact f114 _ _ _ _
theorem s168_ok : CSpecOk E 168 s168 := by
  intro a h cs vals h' he hc
  unfold s168 at he
  split at he <;> simp only [Option.some.injEq, Prod.mk.injEq, reduceCtorEq] at he
  rename_i n nl t xs c st
  obtain ⟨rfl, rfl, rfl⟩ := he
  simp only [allT, Bool.and_eq_true, Bool.not_eq_true', decide_eq_true_eq, and_true] at hc
  obtain ⟨h1, h2, h3⟩ := hc
  have e := repo_of h1
  have hlen : xs.length = (toRepo xs).length := by simp [toRepo]
  rw [hlen] at h2 h3
  have := f168 n nl t (toRepo xs) c st h3 h2
  rw [← e] at this
  exact this
def firstAt (Q : Int → Bool) (l : List Int) : Int := match l.findIdx? Q with
  | some i => i
  | none => -1
theorem findIdx_drop {Q : Int → Bool} {l : List Int} {k : Nat} (h : ∀ j (hj : j < l.length), j < k → Q l[j] = false) (hk : k < l.length) (hq : Q l[k] = true) : l.findIdx? Q = some k := by
  rw [List.findIdx?_eq_some_iff_getElem]
  exact ⟨hk, hq, fun j hj => by simpa using h j (by omega) hj⟩
theorem f51a (l : List Int) (nl : OBo) (t : Bool) (nl2 : OBo) (t2 : Bool) (ys : LLC) (hl : l.length ≤ 4294967296) :
    call E 143 [.c (.sl 1 nl t (ints l)), .fn 167 [.ptr 0 0 0 0]] [.box [.c (.sl 2 nl2 t2 ys)]] = some ([V.i (firstAt (noNum ys.length) l)], [.box [.c (.sl 2 nl2 t2 ys)]]) := by
  have hct : CT.ok E (ctOf [(167, s167)]) := ctOf_cons s167_ok ctOf_nil
  refine call_of (E := E) (sh := sh) (ct := ctOf [(167, s167)]) (na := 2) (m := 1) hct rfl rfl rfl rfl rfl rfl ?_
  rw [t51a]
  have hloop := loop_of (p := p51a) hct (b := b143) (fun k : Nat => ([(0, .c (.sl 1 nl t (ints l))), (1, .fn 167 [.ptr 0 0 0 0]), (7, V.i l.length), (8, V.i k)], [.box [.c (.sl 2 nl2 t2 ys)]]))
    (fun k => k ≤ l.length ∧ ∀ j (hj : j < l.length), j < k → noNum ys.length l[j] = false) (fun k => l.length - k)
    (fun _ => match l.findIdx? (noNum ys.length) with
      | some i => (.ret, [(4, V.i i)], [.box [.c (.sl 2 nl2 t2 ys)]])
      | none => (.exit 0, [(0, .c (.sl 1 nl t (ints l))), (1, .fn 167 [.ptr 0 0 0 0]), (7, V.i l.length), (8, V.i l.length), (9, V.b false)], [.box [.c (.sl 2 nl2 t2 ys)]]))
    (by
      rintro k ⟨hk, hq⟩
      simp only [t51a_0]
      rcases Nat.lt_or_ge k l.length with h | h
      · have hget : l.getD k 0 = l[k] := by rw [List.getD_eq_getElem?_getD, List.getElem?_eq_getElem h]; rfl
        have hw := wrap_same (n := (k : Int) + 1) (by omega) (by omega)
        simp only [ld_br, ld_chk, ints_length, Int.toNat_natCast, ints_getD h, ei_ok, ei_i, hget, hw, ld_leaf, h, Int.ofNat_lt, decide_true, Int.natCast_nonneg, if_true]
        cases hx : noNum ys.length l[k] with
        | true =>
          rw [findIdx_drop hq h hx]
          exact .inr ⟨by simp, by simp⟩
        | false =>
          refine .inl ⟨k + 1, ⟨by omega, fun j hj hjk => ?_⟩, by omega, trivial, by simp⟩
          rcases Nat.lt_or_ge j k with h' | h'
          · exact hq j hj h'
          · have : j = k := by omega
            subst this; exact hx
      · have : k = l.length := by omega
        subst this
        have : l.findIdx? (noNum ys.length) = none := by
          rw [List.findIdx?_eq_none_iff]
          intro x hx
          obtain ⟨j, hj, rfl⟩ := List.getElem_of_mem hx
          exact hq j hj hj
        rw [this]
        refine .inr ⟨by simp, ?_⟩
        simp [ld_br, ld_leaf]) 0 ⟨Nat.zero_le _, fun j hj h => by omega⟩
  rw [ints_length]
  unfold firstAt
  cases h : l.findIdx? (noNum ys.length) with
  | none =>
    simp only [h] at hloop
    exact fd_lp (p := p51a) hct (by kernel_rfl) hloop (by rw [t51a_0x1]; rfl)
  | some i =>
    simp only [h] at hloop
    exact fd_lp (p := p51a) hct (by kernel_rfl) hloop (by rw [t51a_0x0]; rfl)
theorem f51c (l : List Int) (nl : OBo) (t : Bool) (nl2 : OBo) (t2 : Bool) (ys : LLC) (hl : l.length ≤ 4294967296) :
    call E 143 [.c (.sl 1 nl t (ints l)), .fn 114 [.ptr 0 0 0 0]] [.box [.c (.sl 2 nl2 t2 ys)]] = some ([V.i (firstAt (noNum ys.length) l)], [.box [.c (.sl 2 nl2 t2 ys)]]) := by
  have hct : CT.ok E (ctOf [(114, s114)]) := ctOf_cons s114_ok ctOf_nil
  refine call_of (E := E) (sh := sh) (ct := ctOf [(114, s114)]) (na := 2) (m := 1) hct rfl rfl rfl rfl rfl rfl ?_
  rw [t51c]
  have hloop := loop_of (p := p51c) hct (b := b143) (fun k : Nat => ([(0, .c (.sl 1 nl t (ints l))), (1, .fn 114 [.ptr 0 0 0 0]), (7, V.i l.length), (8, V.i k)], [.box [.c (.sl 2 nl2 t2 ys)]]))
    (fun k => k ≤ l.length ∧ ∀ j (hj : j < l.length), j < k → noNum ys.length l[j] = false) (fun k => l.length - k)
    (fun _ => match l.findIdx? (noNum ys.length) with
      | some i => (.ret, [(4, V.i i)], [.box [.c (.sl 2 nl2 t2 ys)]])
      | none => (.exit 0, [(0, .c (.sl 1 nl t (ints l))), (1, .fn 114 [.ptr 0 0 0 0]), (7, V.i l.length), (8, V.i l.length), (9, V.b false)], [.box [.c (.sl 2 nl2 t2 ys)]]))
    (by
      rintro k ⟨hk, hq⟩
      simp only [t51c_0]
      rcases Nat.lt_or_ge k l.length with h | h
      · have hget : l.getD k 0 = l[k] := by rw [List.getD_eq_getElem?_getD, List.getElem?_eq_getElem h]; rfl
        have hw := wrap_same (n := (k : Int) + 1) (by omega) (by omega)
        simp only [ld_br, ld_chk, ints_length, Int.toNat_natCast, ints_getD h, ei_ok, ei_i, hget, hw, ld_leaf, h, Int.ofNat_lt, decide_true, Int.natCast_nonneg, if_true]
        cases hx : noNum ys.length l[k] with
        | true =>
          rw [findIdx_drop hq h hx]
          exact .inr ⟨by simp, by simp⟩
        | false =>
          refine .inl ⟨k + 1, ⟨by omega, fun j hj hjk => ?_⟩, by omega, trivial, by simp⟩
          rcases Nat.lt_or_ge j k with h' | h'
          · exact hq j hj h'
          · have : j = k := by omega
            subst this; exact hx
      · have : k = l.length := by omega
        subst this
        have : l.findIdx? (noNum ys.length) = none := by
          rw [List.findIdx?_eq_none_iff]
          intro x hx
          obtain ⟨j, hj, rfl⟩ := List.getElem_of_mem hx
          exact hq j hj hj
        rw [this]
        refine .inr ⟨by simp, ?_⟩
        simp [ld_br, ld_leaf]) 0 ⟨Nat.zero_le _, fun j hj h => by omega⟩
  rw [ints_length]
  unfold firstAt
  cases h : l.findIdx? (noNum ys.length) with
  | none =>
    simp only [h] at hloop
    exact fd_lp (p := p51c) hct (by kernel_rfl) hloop (by rw [t51c_0x1]; rfl)
  | some i =>
    simp only [h] at hloop
    exact fd_lp (p := p51c) hct (by kernel_rfl) hloop (by rw [t51c_0x0]; rfl)
theorem f51b (l : List Int) (nl : OBo) (t : Bool) (nl2 : OBo) (t2 : Bool) (r : List Cm) (c : C) (st : Int) (hr : r.length ≤ 500) (hn : ∀ n ∈ l, noNum r.length n = false) (hl : l.length ≤ 4294967296) :
    call E 143 [.c (.sl 1 nl t (ints l)), .fn 168 [.ptr 0 0 0 0, .ptr 1 0 0 0]] [.box [.c (.sl 2 nl2 t2 (repo r))], .box [.c c, V.i st]] = some ([V.i (firstAt (lateFor r st) l)], [.box [.c (.sl 2 nl2 t2 (repo r))], .box [.c c, V.i st]]) := by
  have hct : CT.ok E (ctOf [(168, s168)]) := ctOf_cons s168_ok ctOf_nil
  refine call_of (E := E) (sh := sh) (ct := ctOf [(168, s168)]) (na := 2) (m := 2) hct rfl rfl rfl rfl rfl rfl ?_
  rw [t51b]
  have hloop := loop_of (p := p51b) hct (b := b143) (fun k : Nat => ([(0, .c (.sl 1 nl t (ints l))), (1, .fn 168 [.ptr 0 0 0 0, .ptr 1 0 0 0]), (7, V.i l.length), (8, V.i k)], [.box [.c (.sl 2 nl2 t2 (repo r))], .box [.c c, V.i st]]))
    (fun k => k ≤ l.length ∧ ∀ j (hj : j < l.length), j < k → lateFor r st l[j] = false) (fun k => l.length - k)
    (fun _ => match l.findIdx? (lateFor r st) with
      | some i => (.ret, [(4, V.i i)], [.box [.c (.sl 2 nl2 t2 (repo r))], .box [.c c, V.i st]])
      | none => (.exit 0, [(0, .c (.sl 1 nl t (ints l))), (1, .fn 168 [.ptr 0 0 0 0, .ptr 1 0 0 0]), (7, V.i l.length), (8, V.i l.length), (9, V.b false)], [.box [.c (.sl 2 nl2 t2 (repo r))], .box [.c c, V.i st]]))
    (by
      rintro k ⟨hk, hq⟩
      simp only [t51b_0]
      rcases Nat.lt_or_ge k l.length with h | h
      · have hget : l.getD k 0 = l[k] := by rw [List.getD_eq_getElem?_getD, List.getElem?_eq_getElem h]; rfl
        have hw := wrap_same (n := (k : Int) + 1) (by omega) (by omega)
        simp only [ld_br, ld_chk, ints_length, Int.toNat_natCast, ints_getD h, ei_ok, ei_i, hget, hw, ld_leaf, h, isRepo_repo, toRepo_repo, repo_length, hn _ (List.getElem_mem h), hr, Bool.not_false, Int.ofNat_lt, decide_true, Int.natCast_nonneg, if_true]
        cases hx : lateFor r st l[k] with
        | true =>
          rw [findIdx_drop hq h hx]
          exact .inr ⟨by simp, by simp⟩
        | false =>
          refine .inl ⟨k + 1, ⟨by omega, fun j hj hjk => ?_⟩, by omega, trivial, by simp⟩
          rcases Nat.lt_or_ge j k with h' | h'
          · exact hq j hj h'
          · have : j = k := by omega
            subst this; exact hx
      · have : k = l.length := by omega
        subst this
        have : l.findIdx? (lateFor r st) = none := by
          rw [List.findIdx?_eq_none_iff]
          intro x hx
          obtain ⟨j, hj, rfl⟩ := List.getElem_of_mem hx
          exact hq j hj hj
        rw [this]
        refine .inr ⟨by simp, ?_⟩
        simp [ld_br, ld_leaf]) 0 ⟨Nat.zero_le _, fun j hj h => by omega⟩
  rw [ints_length]
  unfold firstAt
  cases h : l.findIdx? (lateFor r st) with
  | none =>
    simp only [h] at hloop
    exact fd_lp (p := p51b) hct (by kernel_rfl) hloop (by rw [t51b_0x1]; rfl)
  | some i =>
    simp only [h] at hloop
    exact fd_lp (p := p51b) hct (by kernel_rfl) hloop (by rw [t51b_0x0]; rfl)
end Go.Proofs.YtgaabjmbnomimaaDoor.Gr
namespace Go.Proofs.YtgaabjmbnomimaaDoor.Gr
open Go Go.Ev
def s143 : CSpec := fun a h => match a, h with
  | [.c (.sl 1 nl t xs), .fn 167 [.ptr 0 0 0 0]], [.box [.c (.sl 2 nl2 t2 ys)]] => some ([isInts xs, decide (xs.length ≤ 4294967296)], [V.i (firstAt (noNum ys.length) (toInts xs))], [.box [.c (.sl 2 nl2 t2 ys)]])
  | [.c (.sl 1 nl t xs), .fn 114 [.ptr 0 0 0 0]], [.box [.c (.sl 2 nl2 t2 ys)]] => some ([isInts xs, decide (xs.length ≤ 4294967296)], [V.i (firstAt (noNum ys.length) (toInts xs))], [.box [.c (.sl 2 nl2 t2 ys)]])
  | [.c (.sl 1 nl t xs), .fn 168 [.ptr 0 0 0 0, .ptr 1 0 0 0]], [.box [.c (.sl 2 nl2 t2 ys)], .box [.c c, .c (.int .i64 st)]] =>
    some ([isInts xs, decide (xs.length ≤ 4294967296), isRepo ys, decide (ys.length ≤ 500), (toInts xs).all fun n => !noNum ys.length n], [V.i (firstAt (lateFor (toRepo ys) st) (toInts xs))], [.box [.c (.sl 2 nl2 t2 ys)], .box [.c c, .c (.int .i64 st)]])
  | _, _ => none
noncomputable abbrev p46a : Par := par E sh (ctOf [(143, s143)]) 106 2 1
noncomputable abbrev p46b : Par := par E sh (ctOf [(143, s143)]) 106 2 2
theorem t46a (nl : OBo) (t : Bool) (xs : LLC) (nl2 : OBo) (t2 : Bool) (ys : LLC) : p46a.ft [V.c (C.sl 1 nl t xs), V.fn 167 [V.ptr 0 0 0 0]] [O.box [V.c (C.sl 2 nl2 t2 ys)]] = Tr.chk (isInts xs) (Tr.chk (decide (xs.length ≤ 4294967296)) (Tr.leaf (R.out [V.c (C.bool (decide (0 ≤ firstAt (noNum ys.length) (toInts xs))))] [O.box [V.c (C.sl 2 nl2 t2 ys)]]))) := by kernel_rfl
theorem t46c (nl : OBo) (t : Bool) (xs : LLC) (nl2 : OBo) (t2 : Bool) (ys : LLC) : p46a.ft [V.c (C.sl 1 nl t xs), V.fn 114 [V.ptr 0 0 0 0]] [O.box [V.c (C.sl 2 nl2 t2 ys)]] = Tr.chk (isInts xs) (Tr.chk (decide (xs.length ≤ 4294967296)) (Tr.leaf (R.out [V.c (C.bool (decide (0 ≤ firstAt (noNum ys.length) (toInts xs))))] [O.box [V.c (C.sl 2 nl2 t2 ys)]]))) := by kernel_rfl
theorem t46b (nl : OBo) (t : Bool) (xs : LLC) (nl2 : OBo) (t2 : Bool) (ys : LLC) (c : C) (st : Int) : p46b.ft [V.c (C.sl 1 nl t xs), V.fn 168 [V.ptr 0 0 0 0, V.ptr 1 0 0 0]] [O.box [V.c (C.sl 2 nl2 t2 ys)], O.box [V.c c, V.i st]] = Tr.chk (isInts xs) (Tr.chk (decide (xs.length ≤ 4294967296)) (Tr.chk (isRepo ys) (Tr.chk (decide (ys.length ≤ 500)) (Tr.chk ((toInts xs).all fun (n : Int) => !noNum ys.length n) (Tr.leaf (R.out [V.c (C.bool (decide (0 ≤ firstAt (lateFor (toRepo ys) st) (toInts xs))))] [O.box [V.c (C.sl 2 nl2 t2 ys)], O.box [V.c c, V.c (C.int IntKind.i64 st)]])))))) := by kernel_rfl
end Go.Proofs.YtgaabjmbnomimaaDoor.Gr
namespace Go.Proofs.YtgaabjmbnomimaaDoor.Gr
open Go Go.Ev
theorem toRepo_length (xs : LLC) : (toRepo xs).length = xs.length := by simp [toRepo]
theorem s143_ok : CSpecOk E 143 s143 := by
  intro a h cs vals h' he hc
  unfold s143 at he
  split at he <;> simp only [Option.some.injEq, Prod.mk.injEq, reduceCtorEq] at he <;> obtain ⟨rfl, rfl, rfl⟩ := he <;> simp only [allT, Bool.and_eq_true, decide_eq_true_eq, and_true] at hc
  · rename_i nl t xs nl2 t2 ys
    have := f51a (toInts xs) nl t nl2 t2 ys (by rw [toInts_length]; exact hc.2)
    rwa [← ints_of hc.1] at this
  · rename_i nl t xs nl2 t2 ys
    have := f51c (toInts xs) nl t nl2 t2 ys (by rw [toInts_length]; exact hc.2)
    rwa [← ints_of hc.1] at this
  · rename_i nl t xs nl2 t2 ys c st
    obtain ⟨h1, h2, h3, h4, h5⟩ := hc
    have := f51b (toInts xs) nl t nl2 t2 (toRepo ys) c st (by rw [toRepo_length]; exact h4) (fun n hn => by
      rw [List.all_eq_true] at h5
      rw [toRepo_length]
      simpa using h5 n hn) (by rw [toInts_length]; exact h2)
    rwa [← ints_of h1, ← repo_of h3] at this
theorem firstAt_any (Q : Int → Bool) (l : List Int) : decide (0 ≤ firstAt Q l) = l.any Q := by
  unfold firstAt
  cases h : l.findIdx? Q with
  | none =>
    rw [List.findIdx?_eq_none_iff] at h
    rw [show l.any Q = false by rw [List.any_eq_false]; intro x hx; simp [h x hx]]
    simp
  | some i =>
    obtain ⟨hi, hq, _⟩ := List.findIdx?_eq_some_iff_getElem.1 h
    rw [show l.any Q = true by rw [List.any_eq_true]; exact ⟨_, List.getElem_mem hi, hq⟩]
    simp
theorem f46a (l : List Int) (nl : OBo) (t : Bool) (nl2 : OBo) (t2 : Bool) (ys : LLC) (hl : l.length ≤ 4294967296) :
    call E 106 [.c (.sl 1 nl t (ints l)), .fn 167 [.ptr 0 0 0 0]] [.box [.c (.sl 2 nl2 t2 ys)]] = some ([V.b (l.any (noNum ys.length))], [.box [.c (.sl 2 nl2 t2 ys)]]) := by
  refine call_of (E := E) (sh := sh) (ct := ctOf [(143, s143)]) (na := 2) (m := 1) (ctOf_cons s143_ok ctOf_nil) rfl rfl rfl rfl rfl rfl ?_
  rw [t46a, fd_chk (isInts_ints _), fd_chk (by simpa using hl), fd_leaf, toInts_ints, firstAt_any]
theorem f46c (l : List Int) (nl : OBo) (t : Bool) (nl2 : OBo) (t2 : Bool) (ys : LLC) (hl : l.length ≤ 4294967296) :
    call E 106 [.c (.sl 1 nl t (ints l)), .fn 114 [.ptr 0 0 0 0]] [.box [.c (.sl 2 nl2 t2 ys)]] = some ([V.b (l.any (noNum ys.length))], [.box [.c (.sl 2 nl2 t2 ys)]]) := by
  refine call_of (E := E) (sh := sh) (ct := ctOf [(143, s143)]) (na := 2) (m := 1) (ctOf_cons s143_ok ctOf_nil) rfl rfl rfl rfl rfl rfl ?_
  rw [t46c, fd_chk (isInts_ints _), fd_chk (by simpa using hl), fd_leaf, toInts_ints, firstAt_any]
theorem f46b (l : List Int) (nl : OBo) (t : Bool) (nl2 : OBo) (t2 : Bool) (r : List Cm) (c : C) (st : Int) (hr : r.length ≤ 500) (hn : (l.all fun n => !noNum r.length n) = true) (hl : l.length ≤ 4294967296) :
    call E 106 [.c (.sl 1 nl t (ints l)), .fn 168 [.ptr 0 0 0 0, .ptr 1 0 0 0]] [.box [.c (.sl 2 nl2 t2 (repo r))], .box [.c c, V.i st]] = some ([V.b (l.any (lateFor r st))], [.box [.c (.sl 2 nl2 t2 (repo r))], .box [.c c, V.i st]]) := by
  refine call_of (E := E) (sh := sh) (ct := ctOf [(143, s143)]) (na := 2) (m := 2) (ctOf_cons s143_ok ctOf_nil) rfl rfl rfl rfl rfl rfl ?_
  rw [t46b, fd_chk (isInts_ints _), fd_chk (by simpa using hl), fd_chk (isRepo_repo _), fd_chk (by simpa using hr), toInts_ints, repo_length, fd_chk hn, fd_leaf, toRepo_repo, firstAt_any]
end Go.Proofs.YtgaabjmbnomimaaDoor.Gr
namespace Go.Proofs.YtgaabjmbnomimaaDoor.Gr
open Go Go.Ev
def s106 : CSpec := fun a h => match a, h with
  | [.c (.sl 1 _ _ xs), .fn 167 [.ptr 0 0 0 0]], [.box [.c (.sl 2 nl2 t2 ys)]] => some ([isInts xs, decide (xs.length ≤ 4294967296)], [V.b ((toInts xs).any (noNum ys.length))], [.box [.c (.sl 2 nl2 t2 ys)]])
  | [.c (.sl 1 _ _ xs), .fn 114 [.ptr 0 0 0 0]], [.box [.c (.sl 2 nl2 t2 ys)]] => some ([isInts xs, decide (xs.length ≤ 4294967296)], [V.b ((toInts xs).any (noNum ys.length))], [.box [.c (.sl 2 nl2 t2 ys)]])
  | [.c (.sl 1 _ _ xs), .fn 168 [.ptr 0 0 0 0, .ptr 1 0 0 0]], [.box [.c (.sl 2 nl2 t2 ys)], .box [.c c, .c (.int .i64 st)]] =>
    some ([isInts xs, decide (xs.length ≤ 4294967296), isRepo ys, decide (ys.length ≤ 500), (toInts xs).all fun n => !noNum ys.length n], [V.b ((toInts xs).any (lateFor (toRepo ys) st))], [.box [.c (.sl 2 nl2 t2 ys)], .box [.c c, .c (.int .i64 st)]])
  | _, _ => none
noncomputable abbrev p141 : Par := par E sh (ctOf [(106, s106)]) 141 2 0
theorem t141 (nl : OBo) (t : Bool) (xs : LLC) (nl2 : OBo) (t2 : Bool) (ps : LLC) (st : Int) : p141.ft [V.c (C.sl 2 nl t xs), V.agg [V.c (C.sl 1 nl2 t2 ps), V.i st]] [] = Tr.br (decide (st < 0)) (Tr.leaf (R.out [V.c (C.int IntKind.i64 2)] [])) (Tr.br (decide (1099511627776 < st)) (Tr.leaf (R.out [V.c (C.int IntKind.i64 2)] [])) (Tr.br (decide (2 < (↑ps.length : Int))) (Tr.leaf (R.out [V.c (C.int IntKind.i64 2)] [])) (Tr.br ((↑ps.length : Int) == 2) (Tr.chk true (Tr.chk true (Tr.chk (decide (Int.toNat 0 < ps.length)) (Tr.chk (shOk [Sk.int IntKind.i64] (ps.getD (Int.toNat 0) [])) (Tr.chk true (Tr.chk true (Tr.chk (decide (Int.toNat 1 < ps.length)) (Tr.chk (shOk [Sk.int IntKind.i64] (ps.getD (Int.toNat 1) [])) (Tr.br (((ps.getD (Int.toNat 0) []).headD C.pnil).i == ((ps.getD (Int.toNat 1) []).headD C.pnil).i) (Tr.leaf (R.out [V.c (C.int IntKind.i64 2)] [])) (Tr.chk (isInts ps) (Tr.chk (decide (ps.length ≤ 4294967296)) (Tr.br ((toInts ps).any (noNum xs.length)) (Tr.leaf (R.out [V.c (C.int IntKind.i64 17)] [])) (Tr.chk (isInts ps) (Tr.chk (decide (ps.length ≤ 4294967296)) (Tr.chk (isRepo xs) (Tr.chk (decide (xs.length ≤ 500)) (Tr.chk ((toInts ps).all fun (n : Int) => !noNum xs.length n) (Tr.br ((toInts ps).any (lateFor (toRepo xs) st)) (Tr.leaf (R.out [V.c (C.int IntKind.i64 14)] [])) (Tr.leaf (R.out [V.c (C.int IntKind.i64 0)] [])))))))))))))))))))) (Tr.chk (isInts ps) (Tr.chk (decide (ps.length ≤ 4294967296)) (Tr.br ((toInts ps).any (noNum xs.length)) (Tr.leaf (R.out [V.c (C.int IntKind.i64 17)] [])) (Tr.chk (isInts ps) (Tr.chk (decide (ps.length ≤ 4294967296)) (Tr.chk (isRepo xs) (Tr.chk (decide (xs.length ≤ 500)) (Tr.chk ((toInts ps).all fun (n : Int) => !noNum xs.length n) (Tr.br ((toInts ps).any (lateFor (toRepo xs) st)) (Tr.leaf (R.out [V.c (C.int IntKind.i64 14)] [])) (Tr.leaf (R.out [V.c (C.int IntKind.i64 0)] [])))))))))))))) := by kernel_rfl
end Go.Proofs.YtgaabjmbnomimaaDoor.Gr
namespace Go.Proofs.YtgaabjmbnomimaaDoor.Gr
open Go Go.Ev
theorem s106_ok : CSpecOk E 106 s106 := by
  intro a h cs vals h' he hc
  unfold s106 at he
  split at he <;> simp only [Option.some.injEq, Prod.mk.injEq, reduceCtorEq] at he <;> obtain ⟨rfl, rfl, rfl⟩ := he <;> simp only [allT, Bool.and_eq_true, decide_eq_true_eq, and_true] at hc
  · rename_i nl t xs nl2 t2 ys
    have := f46a (toInts xs) nl t nl2 t2 ys (by rw [toInts_length]; exact hc.2)
    rwa [← ints_of hc.1] at this
  · rename_i nl t xs nl2 t2 ys
    have := f46c (toInts xs) nl t nl2 t2 ys (by rw [toInts_length]; exact hc.2)
    rwa [← ints_of hc.1] at this
  · rename_i nl t xs nl2 t2 ys c st
    obtain ⟨h1, h2, h3, h4, h5⟩ := hc
    have := f46b (toInts xs) nl t nl2 t2 (toRepo ys) c st (by rw [toRepo_length]; exact h4) (by rw [toRepo_length]; exact h5) (by rw [toInts_length]; exact h2)
    rwa [← ints_of h1, ← repo_of h3] at this
theorem f141 (l : List Cm) (nl : OBo) (t : Bool) (nl2 : OBo) (t2 : Bool) (c : Cm) (hl : l.length ≤ 500) (hc : c.1.length ≤ 4294967296) :
    call E 141 [.c (.sl 2 nl t (repo l)), .agg [.c (.sl 1 nl2 t2 (ints c.1)), V.i c.2]] [] = some ([V.i (faultG l c)], []) := by
  obtain ⟨ps, st⟩ := c
  refine call_of (E := E) (sh := sh) (ct := ctOf [(106, s106)]) (na := 2) (m := 0) (ctOf_cons s106_ok ctOf_nil) rfl rfl rfl rfl rfl rfl ?_
  simp only at hc ⊢
  rw [t141]
  have rest : ∀ {x : Option R}, (if (ps.any (noNum l.length)) = true then some (R.out [V.c (C.int .i64 17)] []) else x) = some (R.out [V.i (if (ps.any (noNum l.length)) = true then 17 else if (ps.any (lateFor l st)) = true then 14 else 0)] []) ↔ ((ps.any (noNum l.length)) = false → x = some (R.out [V.i (if (ps.any (lateFor l st)) = true then 14 else 0)] [])) := by
    intro x
    cases ps.any (noNum l.length) <;> simp
  have hall : ∀ (_ : ps.any (noNum l.length) = false), (ps.all fun n => !noNum l.length n) = true := by
    intro h
    rw [List.any_eq_false] at h
    rw [List.all_eq_true]
    intro x hx
    simpa using h x hx
  simp only [fd_br, fd_leaf, ints_length, repo_length, decide_eq_true_eq, beq_iff_eq, toInts_ints, toRepo_repo]
  unfold faultG
  simp only
  by_cases h1 : st < 0
  · simp [h1]
  rw [if_neg h1]
  by_cases h2 : 1099511627776 < st
  · simp [h2]
  rw [if_neg h2]
  by_cases h3 : 2 < ps.length
  · rw [if_pos (by omega), if_pos (by simp [h3])]
  rw [if_neg (by omega)]
  have tail : ∀ {x : Option R}, (ps.any (noNum l.length) = false → x = (if (ps.any (lateFor l st)) = true then some (R.out [V.c (C.int .i64 14)] []) else some (R.out [V.c (C.int .i64 0)] []))) →
      (if (ps.any (noNum l.length)) = true then some (R.out [V.c (C.int .i64 17)] []) else x) = some (R.out [V.i (if (ps.any (noNum l.length)) = true then 17 else if (ps.any (lateFor l st)) = true then 14 else 0)] []) := by
    intro x hx
    rw [rest]
    intro h
    rw [hx h]
    split <;> rfl
  by_cases h4 : ps.length = 2
  · rw [if_pos (by omega)]
    match ps, h4 with
    | [a, b], _ =>
      rw [fd_chk (by rfl), fd_chk (by rfl), fd_chk (by rfl), fd_chk (by rfl), fd_chk (by rfl), fd_chk (by rfl), fd_chk (by rfl), fd_chk (by rfl), fd_br]
      by_cases h5 : a = b
      · subst h5
        rw [if_pos (by simp [ints, ei, C.i]), if_pos (by simp)]
        rfl
      · rw [if_neg (by simpa [ints, ei, C.i] using h5), if_neg (by simp [h1, h2, h5])]
        rw [fd_chk (isInts_ints _), fd_chk (by simp), fd_br]
        refine tail fun h => ?_
        rw [fd_chk (isInts_ints _), fd_chk (by simp), fd_chk (isRepo_repo _), fd_chk (by simpa using hl), fd_chk (hall h), fd_br]
        rfl
  · rw [if_neg (by omega), if_neg (by simp [h1, h2, h3, h4])]
    rw [fd_chk (isInts_ints _), fd_chk (by simpa using hc), fd_br]
    refine tail fun h => ?_
    rw [fd_chk (isInts_ints _), fd_chk (by simpa using hc), fd_chk (isRepo_repo _), fd_chk (by simpa using hl), fd_chk (hall h), fd_br]
    rfl
end Go.Proofs.YtgaabjmbnomimaaDoor.Gr
namespace Go.Proofs.YtgaabjmbnomimaaDoor.Gr
open Go Go.Ev
def s141 : CSpec := fun a h => match a, h with
  | [.c (.sl 2 _ _ xs), .agg [.c (.sl 1 _ _ ps), .c (.int .i64 st)]], [] => some ([isRepo xs, decide (xs.length ≤ 500), isInts ps, decide (ps.length ≤ 4294967296)], [V.i (faultG (toRepo xs) (toInts ps, st))], [])
  | _, _ => none
noncomputable abbrev p103 : Par := par E sh (ctOf [(141, s141)]) 103 1 0
abbrev s103_0 (nl : OBo) (t : Bool) (xs : LLC) (i11 : Int) (i12 : Int) : Fr × Hp := ([(0, V.c (C.sl 2 nl t xs)), (10, V.c (C.sl 2 nl t xs)), (11, V.c (C.int IntKind.i64 i11)), (12, V.c (C.int IntKind.i64 i12))], [])
noncomputable abbrev b103_0 : Code := loopAt (codeOf p103.E p103.g) 0
abbrev x103_0x0 (i2 : Int) (i3 : Int) (nlh0 : OBo) (xsh0 : LLC) (ih0 : Int) : Ex × Fr × Hp := (Ex.ret, [(2, V.c (C.int IntKind.i64 i2)), (3, V.c (C.int IntKind.i64 i3))], [O.box [V.c (C.sl 1 nlh0 false xsh0), V.c (C.int IntKind.i64 ih0)]])
abbrev x103_0x1 (nl : OBo) (t : Bool) (xs : LLC) (i11 : Int) (i12 : Int) : Ex × Fr × Hp := (Ex.exit 0, [(0, V.c (C.sl 2 nl t xs)), (10, V.c (C.sl 2 nl t xs)), (11, V.c (C.int IntKind.i64 i11)), (12, V.c (C.int IntKind.i64 i12)), (13, V.c (C.bool false))], [])
theorem t103_0 (nl : OBo) (t : Bool) (xs : LLC) (i11 : Int) (i12 : Int) : p103.lts b103_0 (s103_0 nl t xs i11 i12) = (Tr.br (decide (i12 < i11)) (Tr.chk (decide (0 ≤ i12)) (Tr.chk true (Tr.chk (decide (i12.toNat < xs.length)) (Tr.chk (shOk [Sk.sl 1, Sk.int IntKind.i64] (xs.getD i12.toNat [])) (Tr.chk (decide (0 ≤ i12)) (Tr.chk true (Tr.chk (decide (i12.toNat ≤ xs.length)) (Tr.chk true (Tr.chk (isRepo (List.take i12.toNat xs)) (Tr.chk (decide ((List.take i12.toNat xs).length ≤ 500)) (Tr.chk (isInts ((xs.getD i12.toNat []).headD C.pnil).xs) (Tr.chk (decide (((xs.getD i12.toNat []).headD C.pnil).xs.length ≤ 4294967296)) (Tr.br (faultG (toRepo (List.take i12.toNat xs)) (toInts ((xs.getD i12.toNat []).headD C.pnil).xs, ((xs.getD i12.toNat []).tail.headD C.pnil).i) != 0) (Tr.leaf (R.x (x103_0x0 (IntKind.i64.wrap (i12 + 1)) (faultG (toRepo (List.take i12.toNat xs)) (toInts ((xs.getD i12.toNat []).headD C.pnil).xs, ((xs.getD i12.toNat []).tail.headD C.pnil).i)) (none) (((xs.getD i12.toNat []).headD C.pnil).xs) (((xs.getD i12.toNat []).tail.headD C.pnil).i)))) (Tr.leaf (R.s (s103_0 nl t xs i11 (IntKind.i64.wrap (i12 + 1)))))))))))))))))) (Tr.leaf (R.x (x103_0x1 nl t xs i11 i12)))) := by kernel_rfl
theorem k103_0x0 (i2 : Int) (i3 : Int) (nlh0 : OBo) (xsh0 : LLC) (ih0 : Int) : p103.fkx 0 (x103_0x0 i2 i3 nlh0 xsh0 ih0) = (Tr.leaf (R.out [V.c (C.int IntKind.i64 i2), V.c (C.int IntKind.i64 i3)] [])) := by kernel_rfl
theorem k103_0x1 (nl : OBo) (t : Bool) (xs : LLC) (i11 : Int) (i12 : Int) : p103.fkx 0 (x103_0x1 nl t xs i11 i12) = (Tr.leaf (R.out [V.c (C.int IntKind.i64 (↑xs.length : Int)), V.c (C.int IntKind.i64 0)] [])) := by kernel_rfl
theorem t103 (nl : OBo) (t : Bool) (xs : LLC) : p103.ft ([V.c (C.sl 2 nl t xs)]) ([]) = (Tr.br (decide (500 < (↑xs.length : Int))) (Tr.leaf (R.out [V.c (C.int IntKind.i64 500), V.c (C.int IntKind.i64 5)] [])) (Tr.ls 0 (s103_0 nl t xs ((↑xs.length : Int)) (0)))) := by kernel_rfl
end Go.Proofs.YtgaabjmbnomimaaDoor.Gr
namespace Go.Proofs.YtgaabjmbnomimaaDoor.Gr
open Go Go.Ev
theorem getD_of {α : Type} {l : List α} {k : Nat} {x d : α} (h : l[k]? = some x) : l.getD k d = x := by rw [List.getD_eq_getElem?_getD, h]; rfl
theorem repo_at {l : List Cm} {k : Nat} {x : Cm} (h : l[k]? = some x) : (repo l).getD k [] = ec x := by
  rw [List.getD_eq_getElem?_getD]; simp [repo, h]
theorem s141_ok : CSpecOk E 141 s141 := by
  intro a h cs vals h' he hc
  unfold s141 at he
  split at he <;> simp only [Option.some.injEq, Prod.mk.injEq, reduceCtorEq] at he
  obtain ⟨rfl, rfl, rfl⟩ := he
  simp only [allT, Bool.and_eq_true, decide_eq_true_eq, and_true] at hc
  obtain ⟨h1, h2, h3, h4⟩ := hc
  rename_i nl t xs nl2 t2 ps st
  have := f141 (toRepo xs) nl t nl2 t2 (toInts ps, st) (by rw [toRepo_length]; exact h2) (by rw [toInts_length]; exact h4)
  rwa [← repo_of h1, ← ints_of h3] at this
def Small (l : List Cm) : Prop := ∀ c ∈ l, c.1.length ≤ 4294967296
theorem f103 (l : List Cm) (nl : OBo) (t : Bool) (hs : Small l) : call E 103 [.c (.sl 2 nl t (repo l))] [] = some ([V.i (checkG l).1, V.i (checkG l).2], []) := by
  have hct : CT.ok E (ctOf [(141, s141)]) := ctOf_cons s141_ok ctOf_nil
  refine call_of (E := E) (sh := sh) (ct := ctOf [(141, s141)]) (na := 1) (m := 0) hct rfl rfl rfl rfl rfl rfl ?_
  rw [t103, fd_br]
  by_cases h : 500 < l.length
  · rw [if_pos (by simp only [repo_length, decide_eq_true_eq]; omega), fd_leaf]
    simp [checkG, h]
  · rw [if_neg (by simp only [repo_length, decide_eq_true_eq]; omega)]
    have hloop := loop_list (p := p103) hct (b := b103_0) l (fun k (_ : Unit) => s103_0 nl t (repo l) l.length k) (fun _ _ => True)
      (fun r _ => if (checkFrom l r.length (l.length - r.length)).2 = 0 then x103_0x1 nl t (repo l) l.length l.length
        else x103_0x0 (checkFrom l r.length (l.length - r.length)).1 (checkFrom l r.length (l.length - r.length)).2 none (ints (l.getD ((checkFrom l r.length (l.length - r.length)).1 - 1).toNat ([], 0)).1) (l.getD ((checkFrom l r.length (l.length - r.length)).1 - 1).toNat ([], 0)).2)
      (by
        intro k _ c hc hk _
        have hw := wrap_same (n := (k : Int) + 1) (by omega) (by omega)
        have hmem : c ∈ l := List.mem_of_getElem? hc
        have e1 : (c :: l.drop (k + 1)).length = (l.length - (k + 1)) + 1 := by simp
        have e2 : l.length - (l.length - (k + 1) + 1) = k := by omega
        have e3 : (l.drop (k + 1)).length = l.length - (k + 1) := by simp
        have e4 : l.length - (l.length - (k + 1)) = k + 1 := by omega
        rw [e1, e2, e3, e4]
        simp only [t103_0, ld_br, ld_chk', ld_leaf, repo_length, repo_at hc, Int.toNat_natCast, hk, ec_ok, ec_par, ec_stamp, ints_length, hw, Int.ofNat_lt, decide_true, Int.natCast_nonneg, if_true, Nat.le_of_lt hk, repo_take, isRepo_repo, isInts_ints, toRepo_repo, toInts_ints, checkFrom, getD_of hc, decide_eq_true_eq, hs c hmem, List.length_take, show min k l.length ≤ 500 by omega]
        by_cases hf : faultG (l.take k) c = 0
        · exact .inl ⟨(), trivial, by rw [if_pos hf], by rw [if_neg (by simp [hf])]; rfl⟩
        · rw [if_neg hf]
          simp only [if_neg hf]
          refine .inr ⟨by simp, ?_⟩
          rw [if_pos (by simpa using hf)]
          simp [hc])
      (by
        intro _ _
        simp [t103_0, ld_br, ld_leaf, checkFrom]) () trivial
    rw [Nat.sub_self] at hloop
    unfold checkG
    rw [if_neg h]
    rw [repo_length]
    by_cases hz' : (checkFrom l l.length 0).2 = 0
    case neg =>
      rw [if_neg hz'] at hloop
      exact fd_ls (p := p103) hct (by kernel_rfl) hloop (by rw [k103_0x0, fd_leaf]) rfl
    · rw [if_pos hz'] at hloop
      refine fd_ls (p := p103) hct (by kernel_rfl) hloop ?_ rfl
      rw [k103_0x1, fd_leaf]
      have : ∀ n i, (checkFrom l n i).2 = 0 → (checkFrom l n i).1 = l.length := by
        intro n
        induction n with
        | zero => intro i _; rfl
        | succ n ih =>
          intro i
          simp only [checkFrom]
          split
          · exact ih _
          · intro hh; simp only at hh; contradiction
      rw [this _ _ hz', hz', repo_length]
end Go.Proofs.YtgaabjmbnomimaaDoor.Gr
namespace Go.Proofs.YtgaabjmbnomimaaDoor.Gr
open Go Go.Ev
theorem small_of {l : List Cm} (h : smallB l = true) : Small l := by
  intro c hc
  simp only [smallB, List.all_eq_true, decide_eq_true_eq] at h
  exact h c hc
theorem s103_ok : CSpecOk E 103 s103 := by
  intro a h cs vals h' he hc
  unfold s103 at he
  split at he <;> simp only [Option.some.injEq, Prod.mk.injEq, reduceCtorEq] at he
  obtain ⟨rfl, rfl, rfl⟩ := he
  simp only [allT, Bool.and_eq_true, and_true] at hc
  rename_i nl t xs
  have := f103 (toRepo xs) nl t (small_of hc.2)
  rwa [← repo_of hc.1] at this
theorem checkFrom_ok {l : List Cm} : ∀ {k i : Nat}, k + i = l.length → (checkFrom l k i).2 = 0 → ∀ j, i ≤ j → j < l.length → faultG (l.take j) (l.getD j ([], 0)) = 0
  | 0, i, h, _, j, h1, h2 => by omega
  | k + 1, i, h, hz, j, h1, h2 => by
    simp only [checkFrom] at hz
    by_cases hf : faultG (l.take i) (l.getD i ([], 0)) = 0
    · rw [if_pos hf] at hz
      rcases Nat.lt_or_ge i j with hij | hij
      · exact checkFrom_ok (by omega) hz j (by omega) h2
      · obtain rfl : i = j := by omega
        exact hf
    · rw [if_neg hf] at hz
      exact absurd hz hf
theorem right_len {l : List Cm} (h : right l = true) : l.length ≤ 500 := by
  simp only [right, beq_iff_eq, checkG] at h
  split at h
  · simp at h
  · omega
theorem right_fault {l : List Cm} (h : right l = true) {j : Nat} (hj : j < l.length) : faultG (l.take j) (l.getD j ([], 0)) = 0 := by
  have hl := right_len h
  simp only [right, beq_iff_eq, checkG] at h
  rw [if_neg (by omega)] at h
  exact checkFrom_ok (by omega) h j (by omega) hj
theorem fault_zero {l : List Cm} {c : Cm} (h : faultG l c = 0) : 0 ≤ c.2 ∧ c.2 ≤ 1099511627776 ∧ c.1.length ≤ 2 ∧ (∀ p ∈ c.1, 1 ≤ p ∧ p ≤ l.length) ∧ (∀ p ∈ c.1, (l.getD (p - 1).toNat ([], 0)).2 < c.2) := by
  unfold faultG at h
  split at h
  · simp at h
  · rename_i h1
    split at h
    · simp at h
    · rename_i h2
      split at h
      · simp at h
      · rename_i h3
        simp only [not_or] at h1
        refine ⟨by omega, by omega, by omega, fun p hp => ?_, fun p hp => ?_⟩
        · simp only [Bool.not_eq_true, List.any_eq_false] at h2
          have := h2 p hp
          simp only [noNum, Bool.not_eq_true, Bool.or_eq_false_iff, decide_eq_false_iff_not] at this
          omega
        · simp only [Bool.not_eq_true, List.any_eq_false] at h3
          have := h3 p hp
          simp only [lateFor, Bool.not_eq_true, decide_eq_false_iff_not] at this
          omega
theorem right_par {l : List Cm} (h : right l = true) {j : Nat} {c : Cm} (hj : l[j]? = some c) : ∀ p ∈ c.1, 1 ≤ p ∧ p ≤ j := by
  have hlt : j < l.length := (List.getElem?_eq_some_iff.1 hj).1
  have hf := right_fault h hlt
  rw [getD_of hj] at hf
  intro p hp
  have := (fault_zero hf).2.2.2.1 p hp
  rw [List.length_take] at this
  omega
end Go.Proofs.YtgaabjmbnomimaaDoor.Gr
namespace Go.Proofs.YtgaabjmbnomimaaDoor
open Go Go.Ev
def worldOk (l : List Gr.Cm) (ts : List Nd) : Bool := Gr.right l && decide (ts.length = l.length) && ts.all okR
def checkW (l : List Gr.Cm) (ts : List Nd) : Int := if worldOk l ts = true then 0 else 2
def mayW (l : List Gr.Cm) (ts : List Nd) (ns : List Int) : Int := if worldOk l ts = true then (if ns.any (Gr.noNum l.length) = true then 6 else 0) else 2
def parsN (l : List Gr.Cm) (n : Int) : List Int := (l.getD (n - 1).toNat ([], 0)).1
def treeN (ts : List Nd) (n : Int) : Nd := ts.getD (n - 1).toNat default
def baseN (l : List Gr.Cm) (ts : List Nd) (n : Int) : Nd := match parsN l n with
  | [] => nd0
  | p :: _ => treeN ts p
def baseOk (l : List Gr.Cm) (ts : List Nd) (n : Int) : Bool := match parsN l n with
  | [] => true
  | p :: _ => decide (1 ≤ p) && decide (p ≤ ts.length)
def pickP (l : List Gr.Cm) (ts : List Nd) (n onto : Int) : Nd × List (List UInt8) × Int :=
  if mayW l ts [n, onto] = 0 then mergeP (baseN l ts n) (treeN ts onto) (treeN ts n) else (nd0, [], mayW l ts [n, onto])
def revP (l : List Gr.Cm) (ts : List Nd) (n onto : Int) : Nd × List (List UInt8) × Int :=
  if mayW l ts [n, onto] = 0 then mergeP (treeN ts n) (treeN ts onto) (baseN l ts n) else (nd0, [], mayW l ts [n, onto])
def fewT (ts : List Nd) : Bool := ts.all fun t => decide ((entL t.kids).length < 1000000000)
def smallW (l : List Gr.Cm) (ts : List Nd) : Bool := decide (l.length ≤ 30) && decide (ts.length ≤ 30) && (l.all fun c => decide (c.1.length ≤ 5)) && decide (0 < leftL ts 600 60)
def isW (l : List Gr.Cm) (ts : List Nd) (n : Int) : Bool := worldOk l ts && decide (1 ≤ n) && decide (n ≤ l.length)
def idxN (len : Nat) : List Int → Nat → Int
  | [], _ => -1
  | t :: r, k => if Gr.noNum len t = true then k else idxN len r (k + 1)
def s105 : CSpec := fun a h => match a, h with
  | [.agg [.c (.str s), .c (.sl 5 rn rt xs), .c (.sl 3 kn kt ys)]], [] => some ([isRows xs, isL ys], [V.b (!okR (.node s (toRows xs) (decL ys)))], [])
  | _, _ => none
def s142w : CSpec := fun a h => match a, h with
  | [.c (.sl 3 nl tt ys), .fn 105 []], [] => some ([isL ys, decide (ys.length ≤ 9223372036854775807)], [V.i (idxT (fun t => !okR t) (decL ys) 0)], [])
  | _, _ => none
def s104w : CSpec := fun a h => match a, h with
  | [.c (.sl 3 nl tt ys), .fn 105 []], [] => some ([isL ys, decide (ys.length ≤ 9223372036854775807)], [V.b (!(decL ys).all okR)], [])
  | _, _ => none
def s49 : CSpec := fun a h => match a, h with
  | [.agg [.c (.sl 2 nl tt xs), .c (.sl 3 kn kt ys)]], [] => some ([Gr.isRepo xs, Gr.smallB (Gr.toRepo xs), isL ys, decide (ys.length ≤ 4294967296)], [V.i (checkW (Gr.toRepo xs) (decL ys))], [])
  | _, _ => none
def s107 : CSpec := fun a h => match a, h with
  | [.c (.int .i64 n), .ptr 0 0 0 0], [.box [.c (.sl 2 nl tt xs), .c (.sl 3 kn kt ys)]] => some ([], [V.b (Gr.noNum xs.length n)], [.box [.c (.sl 2 nl tt xs), .c (.sl 3 kn kt ys)]])
  | _, _ => none
def s143w : CSpec := fun a h => match a, h with
  | [.c (.sl 1 n1 t1 zs), .fn 107 [.ptr 0 0 0 0]], [.box [.c (.sl 2 nl tt xs), .c (.sl 3 kn kt ys)]] => some ([isInts zs, decide (zs.length ≤ 4294967296)], [V.i (idxN xs.length (toInts zs) 0)], [.box [.c (.sl 2 nl tt xs), .c (.sl 3 kn kt ys)]])
  | _, _ => none
def s106w : CSpec := fun a h => match a, h with
  | [.c (.sl 1 n1 t1 zs), .fn 107 [.ptr 0 0 0 0]], [.box [.c (.sl 2 nl tt xs), .c (.sl 3 kn kt ys)]] => some ([isInts zs, decide (zs.length ≤ 4294967296)], [V.b ((toInts zs).any (Gr.noNum xs.length))], [.box [.c (.sl 2 nl tt xs), .c (.sl 3 kn kt ys)]])
  | _, _ => none
def s53 : CSpec := fun a h => match a, h with
  | [.agg [.c (.sl 2 nl tt xs), .c (.sl 3 kn kt ys)], .c (.sl 1 n1 t1 zs)], [] => some ([Gr.isRepo xs, Gr.smallB (Gr.toRepo xs), isL ys, decide (ys.length ≤ 4294967296), isInts zs, decide (zs.length ≤ 4294967296)], [V.i (mayW (Gr.toRepo xs) (decL ys) (toInts zs))], [])
  | _, _ => none
def s54 : CSpec := fun a h => match a, h with
  | [.agg [.c (.sl 2 nl tt xs), .c (.sl 3 kn kt ys)], .c (.int .i64 n)], [] => some ([Gr.isRepo xs, isL ys, decide (1 ≤ n), decide (n ≤ xs.length), decide (xs.length ≤ 4294967296), decide (ys.length ≤ 4294967296), baseOk (Gr.toRepo xs) (decL ys) n], [VT (baseN (Gr.toRepo xs) (decL ys) n)], [])
  | _, _ => none
def s16 : CSpec := fun a h => match a, h with
  | [.agg [.c (.sl 2 nl tt xs), .c (.sl 3 kn kt ys)], .c (.int .i64 n), .c (.int .i64 m)], [] => some ([Gr.isRepo xs, Gr.smallB (Gr.toRepo xs), isL ys, decide (ys.length ≤ 4294967296), fewT (decL ys)],
      [VT (pickP (Gr.toRepo xs) (decL ys) n m).1, .c (.sl 1 none false (strs (pickP (Gr.toRepo xs) (decL ys) n m).2.1)), V.i (pickP (Gr.toRepo xs) (decL ys) n m).2.2], [])
  | _, _ => none
def s18 : CSpec := fun a h => match a, h with
  | [.agg [.c (.sl 2 nl tt xs), .c (.sl 3 kn kt ys)], .c (.int .i64 n), .c (.int .i64 m)], [] => some ([Gr.isRepo xs, Gr.smallB (Gr.toRepo xs), isL ys, decide (ys.length ≤ 4294967296), fewT (decL ys)],
      [VT (revP (Gr.toRepo xs) (decL ys) n m).1, .c (.sl 1 none false (strs (revP (Gr.toRepo xs) (decL ys) n m).2.1)), V.i (revP (Gr.toRepo xs) (decL ys) n m).2.2], [])
  | _, _ => none
def s14 : CSpec := fun a h => match a, h with
  | [.agg [.c (.sl 2 nl tt xs), .c (.sl 3 kn kt ys)], .c (.int .i64 n)], [] => some ([Gr.isRepo xs, Gr.smallB (Gr.toRepo xs), isL ys, decide (ys.length ≤ 4294967296)], [V.b (isW (Gr.toRepo xs) (decL ys) n)], [])
  | _, _ => none
def s13 : CSpec := fun a h => match a, h with
  | [.agg [.c (.sl 2 nl tt xs), .c (.sl 3 kn kt ys)]], [] => some ([Gr.isRepo xs, isL ys, lensL (decL ys)], [V.b (smallW (Gr.toRepo xs) (decL ys))], [])
  | _, _ => none
def s15 : CSpec := fun a h => match a, h with
  | [], [] => some ([], [V.b true], [])
  | _, _ => none
end Go.Proofs.YtgaabjmbnomimaaDoor
namespace Go.Proofs.YtgaabjmbnomimaaDoor
open Go Go.Ev
-- cse
variable (dd : Nat)
noncomputable abbrev p105 : Par := par E sh (ctOf [(28, s28)]) 105 1 0
theorem t105 (s : Bys) (rn : OBo) (rt : Bool) (xs : LLC) (kn : OBo) (kt : Bool) (ys : LLC) : p105.ft ([V.agg [V.c (C.str s), V.c (C.sl 5 rn rt xs), V.c (C.sl 3 kn kt ys)]]) ([]) = (Tr.chk (isRows xs) (Tr.chk (isL ys) (Tr.leaf (R.out [V.c (C.bool (checkT (Nd.node s (toRows xs) (decL ys)) != 0))] [])))) := by kernel_rfl
noncomputable abbrev p142w : Par := par E sh (ctOf [(105, s105)]) 142 2 0
abbrev s142w_0 (kn : OBo) (kt : Bool) (ys : LLC) (i7 : Int) (i8 : Int) : Fr × Hp := ([(0, V.c (C.sl 3 kn kt ys)), (1, V.fn 105 []), (7, V.c (C.int IntKind.i64 i7)), (8, V.c (C.int IntKind.i64 i8))], [])
noncomputable abbrev b142w_0 : Code := loopAt (codeOf E (142)) 0
abbrev x142w_0x0 (i8 : Int) : Ex × Fr × Hp := (Ex.ret, [(4, V.c (C.int IntKind.i64 i8))], [])
abbrev x142w_0x1 (kn : OBo) (kt : Bool) (ys : LLC) (i7 : Int) (i8 : Int) : Ex × Fr × Hp := (Ex.exit 0, [(0, V.c (C.sl 3 kn kt ys)), (1, V.fn 105 []), (7, V.c (C.int IntKind.i64 i7)), (8, V.c (C.int IntKind.i64 i8)), (9, V.c (C.bool false))], [])
theorem t142w_0 (kn : OBo) (kt : Bool) (ys : LLC) (i7 : Int) (i8 : Int) : p142w.lts b142w_0 (s142w_0 kn kt ys i7 i8) = (Tr.br (decide (i8 < i7)) (Tr.chk (decide (0 ≤ i8)) (Tr.chk true (Tr.chk (decide (i8.toNat < ys.length)) (Tr.chk (shOk [Sk.str, Sk.sl 5, Sk.sl 3] (ys.getD i8.toNat [])) (Tr.chk (isRows ((ys.getD i8.toNat []).tail.headD C.pnil).xs) (Tr.chk (isL ((ys.getD i8.toNat []).tail.tail.headD C.pnil).xs) (Tr.br (!okR (Nd.node ((ys.getD i8.toNat []).headD C.pnil).st (toRows ((ys.getD i8.toNat []).tail.headD C.pnil).xs) (decL ((ys.getD i8.toNat []).tail.tail.headD C.pnil).xs))) (Tr.leaf (R.x (x142w_0x0 i8))) (Tr.leaf (R.s (s142w_0 kn kt ys i7 (IntKind.i64.wrap (i8 + 1)))))))))))) (Tr.leaf (R.x (x142w_0x1 kn kt ys i7 i8)))) := by kernel_rfl
theorem k142w_0x0 (i8 : Int) : p142w.fkx 0 (x142w_0x0 i8) = (Tr.leaf (R.out [V.c (C.int IntKind.i64 i8)] [])) := by kernel_rfl
theorem k142w_0x1 (kn : OBo) (kt : Bool) (ys : LLC) (i7 : Int) (i8 : Int) : p142w.fkx 0 (x142w_0x1 kn kt ys i7 i8) = (Tr.leaf (R.out [V.c (C.int IntKind.i64 (-1))] [])) := by kernel_rfl
theorem t142w (kn : OBo) (kt : Bool) (ys : LLC) : p142w.ft ([V.c (C.sl 3 kn kt ys), V.fn 105 []]) ([]) = (Tr.ls 0 (s142w_0 kn kt ys ((↑ys.length : Int)) (0))) := by kernel_rfl
noncomputable abbrev p104w : Par := par E sh (ctOf [(142, s142w)]) 104 2 0
theorem t104w (kn : OBo) (kt : Bool) (ys : LLC) : p104w.ft ([V.c (C.sl 3 kn kt ys), V.fn 105 []]) ([]) = (Tr.chk (isL ys) (Tr.chk (decide (ys.length ≤ 9223372036854775807)) (Tr.leaf (R.out [V.c (C.bool (decide (0 ≤ idxT (fun (t : Nd) => !okR t) (decL ys) 0)))] [])))) := by kernel_rfl
noncomputable abbrev p49 : Par := par E sh (ctOf [(103, Gr.s103), (104, s104w)]) 49 1 0
theorem t49 (nl : OBo) (tt : Bool) (xs : LLC) (kn : OBo) (kt : Bool) (ys : LLC) : p49.ft ([V.agg [V.c (C.sl 2 nl tt xs), V.c (C.sl 3 kn kt ys)]]) ([]) = (Tr.chk (Gr.isRepo xs) (Tr.chk (Gr.smallB (Gr.toRepo xs)) (Tr.br ((Gr.checkG (Gr.toRepo xs)).snd != 0) (Tr.leaf (R.out [V.c (C.int IntKind.i64 2)] [])) (Tr.br ((↑ys.length : Int) != (↑xs.length : Int)) (Tr.leaf (R.out [V.c (C.int IntKind.i64 2)] [])) (Tr.chk (isL ys) (Tr.chk (decide (ys.length ≤ 9223372036854775807)) (Tr.br (!(decL ys).all okR) (Tr.leaf (R.out [V.c (C.int IntKind.i64 2)] [])) (Tr.leaf (R.out [V.c (C.int IntKind.i64 0)] []))))))))) := by kernel_rfl
noncomputable abbrev p107 : Par := par E sh (ctOf []) 107 2 1
theorem t107 (n : Int) (nl : OBo) (tt : Bool) (xs : LLC) (kn : OBo) (kt : Bool) (ys : LLC) : p107.ft ([V.i n, V.ptr 0 0 0 0]) ([O.box [V.c (C.sl 2 nl tt xs), V.c (C.sl 3 kn kt ys)]]) = (Tr.br (decide (n < 1)) (Tr.leaf (R.out [V.c (C.bool true)] [O.box [V.c (C.sl 2 nl tt xs), V.c (C.sl 3 kn kt ys)]])) (Tr.leaf (R.out [V.c (C.bool (decide ((↑xs.length : Int) < n)))] [O.box [V.c (C.sl 2 nl tt xs), V.c (C.sl 3 kn kt ys)]]))) := by kernel_rfl
noncomputable abbrev p143w : Par := par E sh (ctOf [(107, s107)]) 143 2 1
abbrev s143w_0 (n1 : OBo) (t1 : Bool) (zs : LLC) (nl : OBo) (tt : Bool) (xs : LLC) (kn : OBo) (kt : Bool) (ys : LLC) (i7 : Int) (i8 : Int) : Fr × Hp := ([(0, V.c (C.sl 1 n1 t1 zs)), (1, V.fn 107 [V.ptr 0 0 0 0]), (7, V.c (C.int IntKind.i64 i7)), (8, V.c (C.int IntKind.i64 i8))], [O.box [V.c (C.sl 2 nl tt xs), V.c (C.sl 3 kn kt ys)]])
noncomputable abbrev b143w_0 : Code := loopAt (codeOf E (143)) 0
abbrev x143w_0x0 (nl : OBo) (tt : Bool) (xs : LLC) (kn : OBo) (kt : Bool) (ys : LLC) (i8 : Int) : Ex × Fr × Hp := (Ex.ret, [(4, V.c (C.int IntKind.i64 i8))], [O.box [V.c (C.sl 2 nl tt xs), V.c (C.sl 3 kn kt ys)]])
abbrev x143w_0x1 (n1 : OBo) (t1 : Bool) (zs : LLC) (nl : OBo) (tt : Bool) (xs : LLC) (kn : OBo) (kt : Bool) (ys : LLC) (i7 : Int) (i8 : Int) : Ex × Fr × Hp := (Ex.exit 0, [(0, V.c (C.sl 1 n1 t1 zs)), (1, V.fn 107 [V.ptr 0 0 0 0]), (7, V.c (C.int IntKind.i64 i7)), (8, V.c (C.int IntKind.i64 i8)), (9, V.c (C.bool false))], [O.box [V.c (C.sl 2 nl tt xs), V.c (C.sl 3 kn kt ys)]])
theorem t143w_0 (n1 : OBo) (t1 : Bool) (zs : LLC) (nl : OBo) (tt : Bool) (xs : LLC) (kn : OBo) (kt : Bool) (ys : LLC) (i7 : Int) (i8 : Int) : p143w.lts b143w_0 (s143w_0 n1 t1 zs nl tt xs kn kt ys i7 i8) = (Tr.br (decide (i8 < i7)) (Tr.chk (decide (0 ≤ i8)) (Tr.chk true (Tr.chk (decide (i8.toNat < zs.length)) (Tr.chk (shOk [Sk.int IntKind.i64] (zs.getD i8.toNat [])) (Tr.br (Gr.noNum xs.length ((zs.getD i8.toNat []).headD C.pnil).i) (Tr.leaf (R.x (x143w_0x0 nl tt xs kn kt ys i8))) (Tr.leaf (R.s (s143w_0 n1 t1 zs nl tt xs kn kt ys i7 (IntKind.i64.wrap (i8 + 1)))))))))) (Tr.leaf (R.x (x143w_0x1 n1 t1 zs nl tt xs kn kt ys i7 i8)))) := by kernel_rfl
theorem k143w_0x0 (nl : OBo) (tt : Bool) (xs : LLC) (kn : OBo) (kt : Bool) (ys : LLC) (i8 : Int) : p143w.fkx 0 (x143w_0x0 nl tt xs kn kt ys i8) = (Tr.leaf (R.out [V.c (C.int IntKind.i64 i8)] [O.box [V.c (C.sl 2 nl tt xs), V.c (C.sl 3 kn kt ys)]])) := by kernel_rfl
theorem k143w_0x1 (n1 : OBo) (t1 : Bool) (zs : LLC) (nl : OBo) (tt : Bool) (xs : LLC) (kn : OBo) (kt : Bool) (ys : LLC) (i7 : Int) (i8 : Int) : p143w.fkx 0 (x143w_0x1 n1 t1 zs nl tt xs kn kt ys i7 i8) = (Tr.leaf (R.out [V.c (C.int IntKind.i64 (-1))] [O.box [V.c (C.sl 2 nl tt xs), V.c (C.sl 3 kn kt ys)]])) := by kernel_rfl
theorem t143w (n1 : OBo) (t1 : Bool) (zs : LLC) (nl : OBo) (tt : Bool) (xs : LLC) (kn : OBo) (kt : Bool) (ys : LLC) : p143w.ft ([V.c (C.sl 1 n1 t1 zs), V.fn 107 [V.ptr 0 0 0 0]]) ([O.box [V.c (C.sl 2 nl tt xs), V.c (C.sl 3 kn kt ys)]]) = (Tr.ls 0 (s143w_0 n1 t1 zs nl tt xs kn kt ys ((↑zs.length : Int)) (0))) := by kernel_rfl
noncomputable abbrev p106w : Par := par E sh (ctOf [(143, s143w)]) 106 2 1
theorem t106w (n1 : OBo) (t1 : Bool) (zs : LLC) (nl : OBo) (tt : Bool) (xs : LLC) (kn : OBo) (kt : Bool) (ys : LLC) : p106w.ft ([V.c (C.sl 1 n1 t1 zs), V.fn 107 [V.ptr 0 0 0 0]]) ([O.box [V.c (C.sl 2 nl tt xs), V.c (C.sl 3 kn kt ys)]]) = (Tr.chk (isInts zs) (Tr.chk (decide (zs.length ≤ 4294967296)) (Tr.leaf (R.out [V.c (C.bool (decide (0 ≤ idxN xs.length (toInts zs) 0)))] [O.box [V.c (C.sl 2 nl tt xs), V.c (C.sl 3 kn kt ys)]])))) := by kernel_rfl
noncomputable abbrev p53 : Par := par E sh (ctOf [(49, s49), (106, s106w)]) 53 2 0
theorem t53 (nl : OBo) (tt : Bool) (xs : LLC) (kn : OBo) (kt : Bool) (ys : LLC) (n1 : OBo) (t1 : Bool) (zs : LLC) : p53.ft ([V.agg [V.c (C.sl 2 nl tt xs), V.c (C.sl 3 kn kt ys)], V.c (C.sl 1 n1 t1 zs)]) ([]) = (Tr.chk (Gr.isRepo xs) (Tr.chk (Gr.smallB (Gr.toRepo xs)) (Tr.chk (isL ys) (Tr.chk (decide (ys.length ≤ 4294967296)) (Tr.br (checkW (Gr.toRepo xs) (decL ys) != 0) (Tr.leaf (R.out [V.c (C.int IntKind.i64 (checkW (Gr.toRepo xs) (decL ys)))] [])) (Tr.chk (isInts zs) (Tr.chk (decide (zs.length ≤ 4294967296)) (Tr.br ((toInts zs).any (Gr.noNum xs.length)) (Tr.leaf (R.out [V.c (C.int IntKind.i64 6)] [])) (Tr.leaf (R.out [V.c (C.int IntKind.i64 0)] [])))))))))) := by kernel_rfl
noncomputable abbrev p54 : Par := par E sh (ctOf []) 54 2 0
theorem t54 (nl : OBo) (tt : Bool) (xs : LLC) (kn : OBo) (kt : Bool) (ys : LLC) (n : Int) : p54.ft ([V.agg [V.c (C.sl 2 nl tt xs), V.c (C.sl 3 kn kt ys)], V.i n]) ([]) = (Tr.chk (decide (0 ≤ IntKind.i64.wrap (n - 1))) (Tr.chk true (Tr.chk (decide ((IntKind.i64.wrap (n - 1)).toNat < xs.length)) (Tr.chk (shOk [Sk.sl 1, Sk.int IntKind.i64] (xs.getD (IntKind.i64.wrap (n - 1)).toNat [])) (Tr.br (decide (0 < (↑((xs.getD (IntKind.i64.wrap (n - 1)).toNat []).headD C.pnil).xs.length : Int))) (Tr.chk true (Tr.chk true (Tr.chk (decide (Int.toNat 0 < ((xs.getD (IntKind.i64.wrap (n - 1)).toNat []).headD C.pnil).xs.length)) (Tr.chk (shOk [Sk.int IntKind.i64] (((xs.getD (IntKind.i64.wrap (n - 1)).toNat []).headD C.pnil).xs.getD (Int.toNat 0) [])) (Tr.chk (decide (0 ≤ IntKind.i64.wrap (((((xs.getD (IntKind.i64.wrap (n - 1)).toNat []).headD C.pnil).xs.getD (Int.toNat 0) []).headD C.pnil).i - 1))) (Tr.chk true (Tr.chk (decide ((IntKind.i64.wrap (((((xs.getD (IntKind.i64.wrap (n - 1)).toNat []).headD C.pnil).xs.getD (Int.toNat 0) []).headD C.pnil).i - 1)).toNat < ys.length)) (Tr.chk (shOk [Sk.str, Sk.sl 5, Sk.sl 3] (ys.getD (IntKind.i64.wrap (((((xs.getD (IntKind.i64.wrap (n - 1)).toNat []).headD C.pnil).xs.getD (Int.toNat 0) []).headD C.pnil).i - 1)).toNat [])) (Tr.leaf (R.out [V.agg [V.c (C.str ((ys.getD (IntKind.i64.wrap (((((xs.getD (IntKind.i64.wrap (n - 1)).toNat []).headD C.pnil).xs.getD (Int.toNat 0) []).headD C.pnil).i - 1)).toNat []).headD C.pnil).st), V.c (C.sl 5 none false ((ys.getD (IntKind.i64.wrap (((((xs.getD (IntKind.i64.wrap (n - 1)).toNat []).headD C.pnil).xs.getD (Int.toNat 0) []).headD C.pnil).i - 1)).toNat []).tail.headD C.pnil).xs), V.c (C.sl 3 none false ((ys.getD (IntKind.i64.wrap (((((xs.getD (IntKind.i64.wrap (n - 1)).toNat []).headD C.pnil).xs.getD (Int.toNat 0) []).headD C.pnil).i - 1)).toNat []).tail.tail.headD C.pnil).xs)]] [])))))))))) (Tr.leaf (R.out [V.agg [V.c (C.str []), V.c (C.sl 5 none false []), V.c (C.sl 3 none false [])]] []))))))) := by kernel_rfl
noncomputable abbrev p16 : Par := par E sh (ctOf [(53, s53), (54, s54), (43, s43)]) 16 3 0
abbrev c16_1 (ys : LLC) (m : Int) := (ys.getD (IntKind.i64.wrap (m - 1)).toNat [])
abbrev c16_2 (ys : LLC) (n : Int) := (ys.getD (IntKind.i64.wrap (n - 1)).toNat [])
abbrev c16_3 (xs : LLC) (ys : LLC) (n : Int) (m : Int) := (mergeP (Nd.node (baseN (Gr.toRepo xs) (decL ys) n).lab (toRows (rows (baseN (Gr.toRepo xs) (decL ys) n).rows)) (decL (encL (baseN (Gr.toRepo xs) (decL ys) n).kids))) (Nd.node ((c16_1 ys m).headD C.pnil).st (toRows ((c16_1 ys m).tail.headD C.pnil).xs) (decL ((c16_1 ys m).tail.tail.headD C.pnil).xs)) (Nd.node ((c16_2 ys n).headD C.pnil).st (toRows ((c16_2 ys n).tail.headD C.pnil).xs) (decL ((c16_2 ys n).tail.tail.headD C.pnil).xs)))
theorem t16 (nl : OBo) (tt : Bool) (xs : LLC) (kn : OBo) (kt : Bool) (ys : LLC) (n : Int) (m : Int) : p16.ft ([V.agg [V.c (C.sl 2 nl tt xs), V.c (C.sl 3 kn kt ys)], V.i n, V.i m]) ([]) = (Tr.chk (Gr.isRepo xs) (Tr.chk (Gr.smallB (Gr.toRepo xs)) (Tr.chk (isL ys) (Tr.chk (decide (ys.length ≤ 4294967296)) (Tr.chk true (Tr.chk true (Tr.br (mayW (Gr.toRepo xs) (decL ys) (toInts [[C.int IntKind.i64 n], [C.int IntKind.i64 m]]) != 0) (Tr.leaf (R.out [V.agg [V.c (C.str []), V.c (C.sl 5 none false []), V.c (C.sl 3 none false [])], V.c (C.sl 1 none false []), V.c (C.int IntKind.i64 (mayW (Gr.toRepo xs) (decL ys) (toInts [[C.int IntKind.i64 n], [C.int IntKind.i64 m]])))] [])) (Tr.chk (Gr.isRepo xs) (Tr.chk (isL ys) (Tr.chk (decide (1 ≤ n)) (Tr.chk (decide (n ≤ (↑xs.length : Int))) (Tr.chk (decide (xs.length ≤ 4294967296)) (Tr.chk (decide (ys.length ≤ 4294967296)) (Tr.chk (baseOk (Gr.toRepo xs) (decL ys) n) (Tr.chk (decide (0 ≤ IntKind.i64.wrap (m - 1))) (Tr.chk true (Tr.chk (decide ((IntKind.i64.wrap (m - 1)).toNat < ys.length)) (Tr.chk (shOk [Sk.str, Sk.sl 5, Sk.sl 3] (c16_1 ys m)) (Tr.chk (decide (0 ≤ IntKind.i64.wrap (n - 1))) (Tr.chk true (Tr.chk (decide ((IntKind.i64.wrap (n - 1)).toNat < ys.length)) (Tr.chk (shOk [Sk.str, Sk.sl 5, Sk.sl 3] (c16_2 ys n)) (Tr.chk (isRows (rows (baseN (Gr.toRepo xs) (decL ys) n).rows)) (Tr.chk (isL (encL (baseN (Gr.toRepo xs) (decL ys) n).kids)) (Tr.chk (isRows ((c16_1 ys m).tail.headD C.pnil).xs) (Tr.chk (isL ((c16_1 ys m).tail.tail.headD C.pnil).xs) (Tr.chk (isRows ((c16_2 ys n).tail.headD C.pnil).xs) (Tr.chk (isL ((c16_2 ys n).tail.tail.headD C.pnil).xs) (Tr.chk (decide ((entL (decL (encL (baseN (Gr.toRepo xs) (decL ys) n).kids))).length < 1000000000)) (Tr.chk (decide ((entL (decL ((c16_1 ys m).tail.tail.headD C.pnil).xs)).length < 1000000000)) (Tr.chk (decide ((entL (decL ((c16_2 ys n).tail.tail.headD C.pnil).xs)).length < 1000000000)) (Tr.leaf (R.out [V.agg [V.c (C.str (c16_3 xs ys n m).fst.lab), V.c (C.sl 5 none false (rows (c16_3 xs ys n m).fst.rows)), V.c (C.sl 3 none false (encL (c16_3 xs ys n m).fst.kids))], V.c (C.sl 1 none false (strs (c16_3 xs ys n m).snd.fst)), V.c (C.int IntKind.i64 (c16_3 xs ys n m).snd.snd)] []))))))))))))))))))))))))))))))))) := by kernel_rfl
noncomputable abbrev p18 : Par := par E sh (ctOf [(53, s53), (54, s54), (43, s43)]) 18 3 0
abbrev c18_1 (ys : LLC) (n : Int) := (ys.getD (IntKind.i64.wrap (n - 1)).toNat [])
abbrev c18_2 (ys : LLC) (m : Int) := (ys.getD (IntKind.i64.wrap (m - 1)).toNat [])
abbrev c18_3 (xs : LLC) (ys : LLC) (n : Int) (m : Int) := (mergeP (Nd.node ((c18_1 ys n).headD C.pnil).st (toRows ((c18_1 ys n).tail.headD C.pnil).xs) (decL ((c18_1 ys n).tail.tail.headD C.pnil).xs)) (Nd.node ((c18_2 ys m).headD C.pnil).st (toRows ((c18_2 ys m).tail.headD C.pnil).xs) (decL ((c18_2 ys m).tail.tail.headD C.pnil).xs)) (Nd.node (baseN (Gr.toRepo xs) (decL ys) n).lab (toRows (rows (baseN (Gr.toRepo xs) (decL ys) n).rows)) (decL (encL (baseN (Gr.toRepo xs) (decL ys) n).kids))))
theorem t18 (nl : OBo) (tt : Bool) (xs : LLC) (kn : OBo) (kt : Bool) (ys : LLC) (n : Int) (m : Int) : p18.ft ([V.agg [V.c (C.sl 2 nl tt xs), V.c (C.sl 3 kn kt ys)], V.i n, V.i m]) ([]) = (Tr.chk (Gr.isRepo xs) (Tr.chk (Gr.smallB (Gr.toRepo xs)) (Tr.chk (isL ys) (Tr.chk (decide (ys.length ≤ 4294967296)) (Tr.chk true (Tr.chk true (Tr.br (mayW (Gr.toRepo xs) (decL ys) (toInts [[C.int IntKind.i64 n], [C.int IntKind.i64 m]]) != 0) (Tr.leaf (R.out [V.agg [V.c (C.str []), V.c (C.sl 5 none false []), V.c (C.sl 3 none false [])], V.c (C.sl 1 none false []), V.c (C.int IntKind.i64 (mayW (Gr.toRepo xs) (decL ys) (toInts [[C.int IntKind.i64 n], [C.int IntKind.i64 m]])))] [])) (Tr.chk (decide (0 ≤ IntKind.i64.wrap (n - 1))) (Tr.chk true (Tr.chk (decide ((IntKind.i64.wrap (n - 1)).toNat < ys.length)) (Tr.chk (shOk [Sk.str, Sk.sl 5, Sk.sl 3] (c18_1 ys n)) (Tr.chk (decide (0 ≤ IntKind.i64.wrap (m - 1))) (Tr.chk true (Tr.chk (decide ((IntKind.i64.wrap (m - 1)).toNat < ys.length)) (Tr.chk (shOk [Sk.str, Sk.sl 5, Sk.sl 3] (c18_2 ys m)) (Tr.chk (Gr.isRepo xs) (Tr.chk (isL ys) (Tr.chk (decide (1 ≤ n)) (Tr.chk (decide (n ≤ (↑xs.length : Int))) (Tr.chk (decide (xs.length ≤ 4294967296)) (Tr.chk (decide (ys.length ≤ 4294967296)) (Tr.chk (baseOk (Gr.toRepo xs) (decL ys) n) (Tr.chk (isRows ((c18_1 ys n).tail.headD C.pnil).xs) (Tr.chk (isL ((c18_1 ys n).tail.tail.headD C.pnil).xs) (Tr.chk (isRows ((c18_2 ys m).tail.headD C.pnil).xs) (Tr.chk (isL ((c18_2 ys m).tail.tail.headD C.pnil).xs) (Tr.chk (isRows (rows (baseN (Gr.toRepo xs) (decL ys) n).rows)) (Tr.chk (isL (encL (baseN (Gr.toRepo xs) (decL ys) n).kids)) (Tr.chk (decide ((entL (decL ((c18_1 ys n).tail.tail.headD C.pnil).xs)).length < 1000000000)) (Tr.chk (decide ((entL (decL ((c18_2 ys m).tail.tail.headD C.pnil).xs)).length < 1000000000)) (Tr.chk (decide ((entL (decL (encL (baseN (Gr.toRepo xs) (decL ys) n).kids))).length < 1000000000)) (Tr.leaf (R.out [V.agg [V.c (C.str (c18_3 xs ys n m).fst.lab), V.c (C.sl 5 none false (rows (c18_3 xs ys n m).fst.rows)), V.c (C.sl 3 none false (encL (c18_3 xs ys n m).fst.kids))], V.c (C.sl 1 none false (strs (c18_3 xs ys n m).snd.fst)), V.c (C.int IntKind.i64 (c18_3 xs ys n m).snd.snd)] []))))))))))))))))))))))))))))))))) := by kernel_rfl
noncomputable abbrev p14 : Par := par E sh (ctOf [(49, s49)]) 14 2 0
theorem t14 (nl : OBo) (tt : Bool) (xs : LLC) (kn : OBo) (kt : Bool) (ys : LLC) (n : Int) : p14.ft ([V.agg [V.c (C.sl 2 nl tt xs), V.c (C.sl 3 kn kt ys)], V.i n]) ([]) = (Tr.chk (Gr.isRepo xs) (Tr.chk (Gr.smallB (Gr.toRepo xs)) (Tr.chk (isL ys) (Tr.chk (decide (ys.length ≤ 4294967296)) (Tr.br (checkW (Gr.toRepo xs) (decL ys) == 0) (Tr.br (decide (1 ≤ n)) (Tr.br (decide (n ≤ (↑xs.length : Int))) (Tr.leaf (R.out [V.c (C.bool ((↑ys.length : Int) == (↑xs.length : Int)))] [])) (Tr.leaf (R.out [V.c (C.bool false)] []))) (Tr.leaf (R.out [V.c (C.bool false)] []))) (Tr.leaf (R.out [V.c (C.bool false)] []))))))) := by kernel_rfl
noncomputable abbrev p13 : Par := par E sh (ctOf [(48, s48 dd)]) 13 1 0
abbrev s13_0 (nl : OBo) (tt : Bool) (xs : LLC) (kn : OBo) (kt : Bool) (ys : LLC) (i3 : Int) (i4 : Int) : Fr × Hp := ([(1, V.ptr 0 0 0 0), (3, V.c (C.int IntKind.i64 i3)), (4, V.c (C.int IntKind.i64 i4))], [O.box [V.c (C.sl 2 nl tt xs), V.c (C.sl 3 kn kt ys)]])
noncomputable abbrev b13_0 : Code := loopAt (codeOf E (13)) 0
abbrev x13_0x0 (nl : OBo) (tt : Bool) (xs : LLC) (kn : OBo) (kt : Bool) (ys : LLC) (i3 : Int) (i4 : Int) : Ex × Fr × Hp := (Ex.exit 0, [(1, V.ptr 0 0 0 0), (3, V.c (C.int IntKind.i64 i3)), (4, V.c (C.int IntKind.i64 i4)), (24, V.c (C.bool false))], [O.box [V.c (C.sl 2 nl tt xs), V.c (C.sl 3 kn kt ys)]])
abbrev s13_1 (nl : OBo) (tt : Bool) (xs : LLC) (kn : OBo) (kt : Bool) (ys : LLC) (i3 : Int) (i5 : Int) : Fr × Hp := ([(1, V.ptr 0 0 0 0), (3, V.c (C.int IntKind.i64 i3)), (5, V.c (C.int IntKind.i64 i5))], [O.box [V.c (C.sl 2 nl tt xs), V.c (C.sl 3 kn kt ys)]])
noncomputable abbrev b13_1 : Code := loopAt (codeOf E (13)) 1
abbrev x13_1x0 (nl : OBo) (tt : Bool) (xs : LLC) (kn : OBo) (kt : Bool) (ys : LLC) : Ex × Fr × Hp := (Ex.ret, [(2, V.c (C.bool false))], [O.box [V.c (C.sl 2 nl tt xs), V.c (C.sl 3 kn kt ys)]])
abbrev x13_1x1 (nl : OBo) (tt : Bool) (xs : LLC) (kn : OBo) (kt : Bool) (ys : LLC) (i3 : Int) (i5 : Int) : Ex × Fr × Hp := (Ex.exit 2, [(1, V.ptr 0 0 0 0), (3, V.c (C.int IntKind.i64 i3)), (5, V.c (C.int IntKind.i64 i5)), (38, V.c (C.bool false))], [O.box [V.c (C.sl 2 nl tt xs), V.c (C.sl 3 kn kt ys)]])
theorem t13_0 (nl : OBo) (tt : Bool) (xs : LLC) (kn : OBo) (kt : Bool) (ys : LLC) (i3 : Int) (i4 : Int) : (p13 dd).lts b13_0 (s13_0 nl tt xs kn kt ys i3 i4) = (Tr.br (decide (i4 < (↑ys.length : Int))) (Tr.br (decide (0 < i3)) (Tr.chk (decide (0 ≤ i4)) (Tr.chk true (Tr.chk (decide (i4.toNat < ys.length)) (Tr.chk (shOk [Sk.str, Sk.sl 5, Sk.sl 3] (ys.getD i4.toNat [])) (Tr.chk (isRows ((ys.getD i4.toNat []).tail.headD C.pnil).xs) (Tr.chk (isL ((ys.getD i4.toNat []).tail.tail.headD C.pnil).xs) (Tr.chk (decide (depL (decL ((ys.getD i4.toNat []).tail.tail.headD C.pnil).xs) < dd)) (Tr.chk (decide (0 ≤ i3)) (Tr.chk (decide (i3 ≤ 1000)) (Tr.chk true (Tr.chk true (Tr.chk (lensT (Nd.node ((ys.getD i4.toNat []).headD C.pnil).st (toRows ((ys.getD i4.toNat []).tail.headD C.pnil).xs) (decL ((ys.getD i4.toNat []).tail.tail.headD C.pnil).xs))) (Tr.leaf (R.s (s13_0 nl tt xs kn kt ys (leftT (Nd.node ((ys.getD i4.toNat []).headD C.pnil).st (toRows ((ys.getD i4.toNat []).tail.headD C.pnil).xs) (decL ((ys.getD i4.toNat []).tail.tail.headD C.pnil).xs)) i3 60) (IntKind.i64.wrap (i4 + 1))))))))))))))))) (Tr.leaf (R.x (x13_0x0 nl tt xs kn kt ys i3 i4)))) (Tr.leaf (R.x (x13_0x0 nl tt xs kn kt ys i3 i4)))) := by kernel_rfl
theorem t13_1 (nl : OBo) (tt : Bool) (xs : LLC) (kn : OBo) (kt : Bool) (ys : LLC) (i3 : Int) (i5 : Int) : (p13 dd).lts b13_1 (s13_1 nl tt xs kn kt ys i3 i5) = (Tr.br (decide (i5 < (↑xs.length : Int))) (Tr.chk (decide (0 ≤ i5)) (Tr.chk true (Tr.chk (decide (i5.toNat < xs.length)) (Tr.chk (shOk [Sk.sl 1, Sk.int IntKind.i64] (xs.getD i5.toNat [])) (Tr.br (decide (5 < (↑((xs.getD i5.toNat []).headD C.pnil).xs.length : Int))) (Tr.leaf (R.x (x13_1x0 nl tt xs kn kt ys))) (Tr.leaf (R.s (s13_1 nl tt xs kn kt ys i3 (IntKind.i64.wrap (i5 + 1)))))))))) (Tr.leaf (R.x (x13_1x1 nl tt xs kn kt ys i3 i5)))) := by kernel_rfl
theorem k13_1x0 (dd : Nat) (nl : OBo) (tt : Bool) (xs : LLC) (kn : OBo) (kt : Bool) (ys : LLC) : (p13 dd).fkx 1 (x13_1x0 nl tt xs kn kt ys) = (Tr.leaf (R.out [V.c (C.bool false)] [])) := by kernel_rfl
theorem k13_1x1 (dd : Nat) (nl : OBo) (tt : Bool) (xs : LLC) (kn : OBo) (kt : Bool) (ys : LLC) (i3 : Int) (i5 : Int) : (p13 dd).fkx 1 (x13_1x1 nl tt xs kn kt ys i3 i5) = (Tr.leaf (R.out [V.c (C.bool (decide (0 < i3)))] [])) := by kernel_rfl
theorem k13_0x0 (dd : Nat) (nl : OBo) (tt : Bool) (xs : LLC) (kn : OBo) (kt : Bool) (ys : LLC) (i3 : Int) (i4 : Int) : (p13 dd).fkx 0 (x13_0x0 nl tt xs kn kt ys i3 i4) = (Tr.ls 1 (s13_1 nl tt xs kn kt ys i3 (0))) := by kernel_rfl
theorem t13 (nl : OBo) (tt : Bool) (xs : LLC) (kn : OBo) (kt : Bool) (ys : LLC) : (p13 dd).ft ([V.agg [V.c (C.sl 2 nl tt xs), V.c (C.sl 3 kn kt ys)]]) ([]) = (Tr.br (decide (30 < (↑xs.length : Int))) (Tr.leaf (R.out [V.c (C.bool false)] [])) (Tr.br (decide (30 < (↑ys.length : Int))) (Tr.leaf (R.out [V.c (C.bool false)] [])) (Tr.ls 0 (s13_0 nl tt xs kn kt ys (600) (0))))) := by kernel_rfl
noncomputable abbrev p3 : Par := par E sh (ctOf [(13, s13), (14, s14), (15, s15), (16, s16), (17, s17n), (18, s18)]) 3 2 0
abbrev c3_1 (xs : LLC) (n : Int) := (xs.getD (IntKind.i64.wrap (n - 1)).toNat [])
abbrev c3_2 (xs : LLC) (ys : LLC) (n : Int) := (pickP (Gr.toRepo xs) (decL ys) n ((((c3_1 xs n).headD C.pnil).xs.getD (Int.toNat 0) []).headD C.pnil).i)
abbrev c3_3 (xs : LLC) (n : Int) := (IntKind.i64.wrap (((((c3_1 xs n).headD C.pnil).xs.getD (Int.toNat 0) []).headD C.pnil).i - 1))
abbrev c3_4 (xs : LLC) (ys : LLC) (n : Int) := (revP (Gr.toRepo xs) (decL ys) n n)
abbrev c3_5 (xs : LLC) (ys : LLC) (n : Int) := (Nd.node (c3_4 xs ys n).fst.lab (toRows (rows (c3_4 xs ys n).fst.rows)) (decL (encL (c3_4 xs ys n).fst.kids)))
abbrev c3_6 (ys : LLC) (n : Int) := (ys.getD (IntKind.i64.wrap (n - 1)).toNat [])
abbrev c3_7 (xs : LLC) (n : Int) := (shOk [Sk.int IntKind.i64] (((c3_1 xs n).headD C.pnil).xs.getD (Int.toNat 0) []))
abbrev c3_8 (xs : LLC) (ys : LLC) (n : Int) := (pickP (Gr.toRepo xs) (decL ys) n n)
abbrev c3_9 (ys : LLC) (n : Int) := (Nd.node ((c3_6 ys n).headD C.pnil).st (toRows ((c3_6 ys n).tail.headD C.pnil).xs) (decL ((c3_6 ys n).tail.tail.headD C.pnil).xs))
theorem t3 (xs : LLC) (ys : LLC) (n : Int) : p3.ft ([V.agg [V.c (C.sl 2 none false xs), V.c (C.sl 3 none false ys)], V.i n]) ([]) = (Tr.chk (Gr.isRepo xs) (Tr.chk (isL ys) (Tr.chk (lensL (decL ys)) (Tr.br (!smallW (Gr.toRepo xs) (decL ys)) (Tr.leaf (R.out [V.c (C.bool true)] [])) (Tr.chk (Gr.isRepo xs) (Tr.chk (Gr.smallB (Gr.toRepo xs)) (Tr.chk (isL ys) (Tr.chk (decide (ys.length ≤ 4294967296)) (Tr.br (!isW (Gr.toRepo xs) (decL ys) n) (Tr.leaf (R.out [V.c (C.bool true)] [])) (Tr.chk (Gr.isRepo xs) (Tr.chk (Gr.smallB (Gr.toRepo xs)) (Tr.chk (isL ys) (Tr.chk (decide (ys.length ≤ 4294967296)) (Tr.chk (fewT (decL ys)) (Tr.chk (decide (0 ≤ IntKind.i64.wrap (n - 1))) (Tr.chk true (Tr.chk (decide ((IntKind.i64.wrap (n - 1)).toNat < ys.length)) (Tr.chk (shOk [Sk.str, Sk.sl 5, Sk.sl 3] (c3_6 ys n)) (Tr.chk (isRows (rows (c3_8 xs ys n).fst.rows)) (Tr.chk (isL (encL (c3_8 xs ys n).fst.kids)) (Tr.chk (isRows ((c3_6 ys n).tail.headD C.pnil).xs) (Tr.chk (isL ((c3_6 ys n).tail.tail.headD C.pnil).xs) (Tr.chk (lensT (Nd.node (c3_8 xs ys n).fst.lab (toRows (rows (c3_8 xs ys n).fst.rows)) (decL (encL (c3_8 xs ys n).fst.kids)))) (Tr.br (!sameT (Nd.node (c3_8 xs ys n).fst.lab (toRows (rows (c3_8 xs ys n).fst.rows)) (decL (encL (c3_8 xs ys n).fst.kids))) (c3_9 ys n)) (Tr.leaf (R.out [V.c (C.bool false)] [])) (Tr.br ((↑(strs (c3_8 xs ys n).snd.fst).length : Int) != 0) (Tr.leaf (R.out [V.c (C.bool false)] [])) (Tr.br ((c3_8 xs ys n).snd.snd != 0) (Tr.leaf (R.out [V.c (C.bool false)] [])) (Tr.chk (decide (0 ≤ IntKind.i64.wrap (n - 1))) (Tr.chk true (Tr.chk (decide ((IntKind.i64.wrap (n - 1)).toNat < xs.length)) (Tr.chk (shOk [Sk.sl 1, Sk.int IntKind.i64] (c3_1 xs n)) (Tr.chk (Gr.isRepo xs) (Tr.chk (Gr.smallB (Gr.toRepo xs)) (Tr.chk (isL ys) (Tr.chk (decide (ys.length ≤ 4294967296)) (Tr.chk (fewT (decL ys)) (Tr.br ((↑((c3_1 xs n).headD C.pnil).xs.length : Int) == 0) (Tr.chk (isRows (rows (c3_4 xs ys n).fst.rows)) (Tr.chk (isL (encL (c3_4 xs ys n).fst.kids)) (Tr.chk true (Tr.chk true (Tr.chk (lensT (c3_5 xs ys n)) (Tr.br (sameT (c3_5 xs ys n) (Nd.node [] (toRows []) (decL []))) (Tr.br ((↑(strs (c3_4 xs ys n).snd.fst).length : Int) == 0) (Tr.br ((c3_4 xs ys n).snd.snd == 0) (Tr.leaf (R.out [V.c (C.bool true)] [])) (Tr.leaf (R.out [V.c (C.bool false)] []))) (Tr.leaf (R.out [V.c (C.bool false)] []))) (Tr.leaf (R.out [V.c (C.bool false)] [])))))))) (Tr.chk true (Tr.chk true (Tr.chk (decide (Int.toNat 0 < ((c3_1 xs n).headD C.pnil).xs.length)) (Tr.chk (c3_7 xs n) (Tr.br (decide (((((c3_1 xs n).headD C.pnil).xs.getD (Int.toNat 0) []).headD C.pnil).i < 1)) (Tr.leaf (R.out [V.c (C.bool false)] [])) (Tr.chk true (Tr.chk true (Tr.chk (decide (Int.toNat 0 < ((c3_1 xs n).headD C.pnil).xs.length)) (Tr.chk (c3_7 xs n) (Tr.br (decide ((↑ys.length : Int) < ((((c3_1 xs n).headD C.pnil).xs.getD (Int.toNat 0) []).headD C.pnil).i)) (Tr.leaf (R.out [V.c (C.bool false)] [])) (Tr.chk true (Tr.chk true (Tr.chk (decide (Int.toNat 0 < ((c3_1 xs n).headD C.pnil).xs.length)) (Tr.chk (c3_7 xs n) (Tr.chk (Gr.isRepo xs) (Tr.chk (Gr.smallB (Gr.toRepo xs)) (Tr.chk (isL ys) (Tr.chk (decide (ys.length ≤ 4294967296)) (Tr.chk (fewT (decL ys)) (Tr.chk true (Tr.chk true (Tr.chk (decide (Int.toNat 0 < ((c3_1 xs n).headD C.pnil).xs.length)) (Tr.chk (c3_7 xs n) (Tr.chk (decide (0 ≤ IntKind.i64.wrap (((((c3_1 xs n).headD C.pnil).xs.getD (Int.toNat 0) []).headD C.pnil).i - 1))) (Tr.chk true (Tr.chk (decide ((c3_3 xs n).toNat < ys.length)) (Tr.chk (shOk [Sk.str, Sk.sl 5, Sk.sl 3] (ys.getD (c3_3 xs n).toNat [])) (Tr.chk (isRows (rows (c3_4 xs ys n).fst.rows)) (Tr.chk (isL (encL (c3_4 xs ys n).fst.kids)) (Tr.chk (isRows ((ys.getD (c3_3 xs n).toNat []).tail.headD C.pnil).xs) (Tr.chk (isL ((ys.getD (c3_3 xs n).toNat []).tail.tail.headD C.pnil).xs) (Tr.chk (lensT (c3_5 xs ys n)) (Tr.br (sameT (c3_5 xs ys n) (Nd.node ((ys.getD (c3_3 xs n).toNat []).headD C.pnil).st (toRows ((ys.getD (c3_3 xs n).toNat []).tail.headD C.pnil).xs) (decL ((ys.getD (c3_3 xs n).toNat []).tail.tail.headD C.pnil).xs))) (Tr.br ((↑(strs (c3_4 xs ys n).snd.fst).length : Int) == 0) (Tr.br ((c3_4 xs ys n).snd.snd == 0) (Tr.chk (decide (0 ≤ IntKind.i64.wrap (n - 1))) (Tr.chk true (Tr.chk (decide ((IntKind.i64.wrap (n - 1)).toNat < ys.length)) (Tr.chk (shOk [Sk.str, Sk.sl 5, Sk.sl 3] (c3_6 ys n)) (Tr.chk (isRows (rows (c3_2 xs ys n).fst.rows)) (Tr.chk (isL (encL (c3_2 xs ys n).fst.kids)) (Tr.chk (isRows ((c3_6 ys n).tail.headD C.pnil).xs) (Tr.chk (isL ((c3_6 ys n).tail.tail.headD C.pnil).xs) (Tr.chk (lensT (Nd.node (c3_2 xs ys n).fst.lab (toRows (rows (c3_2 xs ys n).fst.rows)) (decL (encL (c3_2 xs ys n).fst.kids)))) (Tr.br (sameT (Nd.node (c3_2 xs ys n).fst.lab (toRows (rows (c3_2 xs ys n).fst.rows)) (decL (encL (c3_2 xs ys n).fst.kids))) (c3_9 ys n)) (Tr.br ((↑(strs (c3_2 xs ys n).snd.fst).length : Int) == 0) (Tr.br ((c3_2 xs ys n).snd.snd == 0) (Tr.leaf (R.out [V.c (C.bool true)] [])) (Tr.leaf (R.out [V.c (C.bool false)] []))) (Tr.leaf (R.out [V.c (C.bool false)] []))) (Tr.leaf (R.out [V.c (C.bool false)] [])))))))))))) (Tr.leaf (R.out [V.c (C.bool false)] []))) (Tr.leaf (R.out [V.c (C.bool false)] []))) (Tr.leaf (R.out [V.c (C.bool false)] []))))))))))))))))))))))))))))))))))))))))))))))))))))))))))))))))))))))) := by kernel_rfl
end Go.Proofs.YtgaabjmbnomimaaDoor
namespace Go.Proofs.YtgaabjmbnomimaaDoor
open Go Go.Ev
theorem repo_ex {xs : List (List C)} (h : Gr.isRepo xs = true) : ∃ l, xs = Gr.repo l := ⟨_, Gr.repo_of h⟩
theorem f105 (s : Bys) (rn : OBo) (rt : Bool) (rs : List Row) (kn : OBo) (kt : Bool) (ks : List Nd) : call E 105 [.agg [.c (.str s), .c (.sl 5 rn rt (rows rs)), .c (.sl 3 kn kt (encL ks))]] [] = some ([V.b (!okR (.node s rs ks))], []) := by
  refine call_of (E := E) (sh := sh) (ct := ctOf [(28, s28)]) (na := 1) (m := 0) (ctOf_cons s28_ok ctOf_nil) rfl rfl rfl rfl rfl rfl ?_
  rw [t105]
  simp only [nd_ok, nd_lab, nd_rows, nd_kids, encL_length, isL_enc, decL_enc, wrap_hd, hd_pos, ld_br, ld_chk', ld_leaf, fd_br, fd_chk', fd_leaf, decide_true, decide_eq_true_eq, if_true, Int.toNat_natCast, Int.natCast_nonneg, Int.ofNat_lt, Int.ofNat_le, Bool.false_eq_true, if_false, bne_iff_ne, beq_iff_eq, ne_eq, not_true_eq_false, not_false_eq_true, Bool.not_eq_true', decide_eq_false_iff_not, reduceCtorEq, rows_length, pcs_length, er_ok, er_ok', ep_ok, ep_ok', dr_er, dp_ep, isRows_rows, isPcs_pcs, toRows_rows, toPcs_pcs, rows_take, rows_drop, pcs_take, pcs_drop, rows_append, pcs_append, ints_length, isInts_ints, toInts_ints, ei_i, ei_ok, mk_headD, ints_take, ints_drop, ints_append, ints_snoc, ints_snoc', List.take_length, Nat.zero_add, Nat.le_refl, er_a, er_b, er_k, er_n, er_s, er_v, ep_a, ep_b, ep_hk, ep_hn, ep_hs, ep_wk, ep_wn, ep_ws, checkT_ne]
theorem s105_ok : CSpecOk E 105 s105 := by
  intro a h cs vals h' he hc
  unfold s105 at he
  split at he <;> simp only [Option.some.injEq, Prod.mk.injEq, reduceCtorEq] at he
  rename_i s rn rt xs kn kt ys
  obtain ⟨rfl, rfl, rfl⟩ := he
  simp only [allT, Bool.and_true, Bool.and_eq_true, decide_eq_true_eq] at hc
  obtain ⟨h1, h2⟩ := hc
  obtain ⟨rs, rfl⟩ := rows_ex h1
  obtain ⟨ks, rfl⟩ := isL_ex h2
  simp only [toRows_rows, decL_enc]
  exact f105 s rn rt rs kn kt ks
theorem f142w (nl : OBo) (tt : Bool) (ks : List Nd) (hk : ks.length ≤ 9223372036854775807) : call E 142 [.c (.sl 3 nl tt (encL ks)), .fn 105 []] [] = some ([V.i (idxT (fun t => !okR t) ks 0)], []) := by
  have hct : (ctOf [(105, s105)]).ok E := ctOf_cons s105_ok ctOf_nil
  refine call_of (E := E) (sh := sh) (ct := ctOf [(105, s105)]) (na := 2) (m := 0) hct rfl rfl rfl rfl rfl rfl ?_
  rw [show p142w.ft _ _ = _ from t142w nl tt (encL ks), encL_length]
  refine fd_post (p := p142w) hct (by kernel_rfl) rfl (list_post (p := p142w) hct (b := b142w_0) ks.length (fun k (_ : Unit) => s142w_0 nl tt (encL ks) ks.length k) (fun k _ => idxT (fun t => !okR t) (ks.drop k) k = idxT (fun t => !okR t) ks 0) _ ?_ ?_ 0 (Nat.zero_le _) () rfl)
  · intro k _ hk2 hi
    rw [idxT_drop _ _ _ _ hk2] at hi
    have e : p142w.ld b142w_0 (p142w.lts b142w_0 (s142w_0 nl tt (encL ks) ks.length k)) = (if (!okR ks[k]) = true then some (R.x (x142w_0x0 k)) else some (R.s (s142w_0 nl tt (encL ks) ks.length ((k + 1 : Nat) : Int)))) := by
      rw [t142w_0]
      simp only [nd_ok, nd_lab, nd_rows, nd_kids, encL_length, isL_enc, decL_enc, wrap_hd, hd_pos, ld_br, ld_chk', ld_leaf, fd_br, fd_chk', fd_leaf, decide_true, decide_eq_true_eq, if_true, Int.toNat_natCast, Int.natCast_nonneg, Int.ofNat_lt, Int.ofNat_le, Bool.false_eq_true, if_false, bne_iff_ne, beq_iff_eq, ne_eq, not_true_eq_false, not_false_eq_true, Bool.not_eq_true', decide_eq_false_iff_not, reduceCtorEq, rows_length, pcs_length, er_ok, er_ok', ep_ok, ep_ok', dr_er, dp_ep, isRows_rows, isPcs_pcs, toRows_rows, toPcs_pcs, rows_take, rows_drop, pcs_take, pcs_drop, rows_append, pcs_append, ints_length, isInts_ints, toInts_ints, ei_i, ei_ok, mk_headD, ints_take, ints_drop, ints_append, ints_snoc, ints_snoc', List.take_length, Nat.zero_add, Nat.le_refl, er_a, er_b, er_k, er_n, er_s, er_v, ep_a, ep_b, ep_hk, ep_hn, ep_hs, ep_wk, ep_wn, ep_ws, hk2, encL_getD hk2, Nd.eta, wrap_succ (show k < 9223372036854775807 by omega)]
    cases c : okR ks[k] with
    | true =>
      rw [c] at hi e
      exact .inl ⟨(), by simpa using hi, by rw [e]; rfl⟩
    | false =>
      rw [c] at hi e
      refine .inr ⟨x142w_0x0 k, by simp, ?_, by rw [e]; rfl⟩
      rw [k142w_0x0, fd_leaf, ← hi]; rfl
  · intro _ hi
    rw [List.drop_length] at hi
    refine ⟨x142w_0x1 nl tt (encL ks) ks.length ks.length, by simp, ?_, ?_⟩
    · rw [k142w_0x1, fd_leaf, ← hi]; rfl
    · rw [t142w_0]; simp only [nd_ok, nd_lab, nd_rows, nd_kids, encL_length, isL_enc, decL_enc, wrap_hd, hd_pos, ld_br, ld_chk', ld_leaf, fd_br, fd_chk', fd_leaf, decide_true, decide_eq_true_eq, if_true, Int.toNat_natCast, Int.natCast_nonneg, Int.ofNat_lt, Int.ofNat_le, Bool.false_eq_true, if_false, bne_iff_ne, beq_iff_eq, ne_eq, not_true_eq_false, not_false_eq_true, Bool.not_eq_true', decide_eq_false_iff_not, reduceCtorEq, rows_length, pcs_length, er_ok, er_ok', ep_ok, ep_ok', dr_er, dp_ep, isRows_rows, isPcs_pcs, toRows_rows, toPcs_pcs, rows_take, rows_drop, pcs_take, pcs_drop, rows_append, pcs_append, ints_length, isInts_ints, toInts_ints, ei_i, ei_ok, mk_headD, ints_take, ints_drop, ints_append, ints_snoc, ints_snoc', List.take_length, Nat.zero_add, Nat.le_refl, er_a, er_b, er_k, er_n, er_s, er_v, ep_a, ep_b, ep_hk, ep_hn, ep_hs, ep_wk, ep_wn, ep_ws, Int.lt_irrefl]
theorem s142w_ok : CSpecOk E 142 s142w := by
  intro a h cs vals h' he hc
  unfold s142w at he
  split at he <;> simp only [Option.some.injEq, Prod.mk.injEq, reduceCtorEq] at he
  rename_i nl tt ys
  obtain ⟨rfl, rfl, rfl⟩ := he
  simp only [allT, Bool.and_true, Bool.and_eq_true, decide_eq_true_eq] at hc
  obtain ⟨ks, rfl⟩ := isL_ex hc.1
  rw [decL_enc]
  exact f142w nl tt ks (by have := hc.2; rw [encL_length] at this; exact this)
theorem s104w_ok : CSpecOk E 104 s104w := by
  intro a h cs vals h' he hc
  unfold s104w at he
  split at he <;> simp only [Option.some.injEq, Prod.mk.injEq, reduceCtorEq] at he
  rename_i nl tt ys
  obtain ⟨rfl, rfl, rfl⟩ := he
  simp only [allT, Bool.and_true, Bool.and_eq_true, decide_eq_true_eq] at hc
  obtain ⟨ks, rfl⟩ := isL_ex hc.1
  rw [decL_enc]
  refine call_of (E := E) (sh := sh) (ct := ctOf [(142, s142w)]) (na := 2) (m := 0) (ctOf_cons s142w_ok ctOf_nil) rfl rfl rfl rfl rfl rfl ?_
  rw [show p104w.ft _ _ = _ from t104w nl tt (encL ks)]
  have hk := hc.2
  rw [encL_length] at hk
  simp only [nd_ok, nd_lab, nd_rows, nd_kids, encL_length, isL_enc, decL_enc, wrap_hd, hd_pos, ld_br, ld_chk', ld_leaf, fd_br, fd_chk', fd_leaf, decide_true, decide_eq_true_eq, if_true, Int.toNat_natCast, Int.natCast_nonneg, Int.ofNat_lt, Int.ofNat_le, Bool.false_eq_true, if_false, bne_iff_ne, beq_iff_eq, ne_eq, not_true_eq_false, not_false_eq_true, Bool.not_eq_true', decide_eq_false_iff_not, reduceCtorEq, rows_length, pcs_length, er_ok, er_ok', ep_ok, ep_ok', dr_er, dp_ep, isRows_rows, isPcs_pcs, toRows_rows, toPcs_pcs, rows_take, rows_drop, pcs_take, pcs_drop, rows_append, pcs_append, ints_length, isInts_ints, toInts_ints, ei_i, ei_ok, mk_headD, ints_take, ints_drop, ints_append, ints_snoc, ints_snoc', List.take_length, Nat.zero_add, Nat.le_refl, er_a, er_b, er_k, er_n, er_s, er_v, ep_a, ep_b, ep_hk, ep_hn, ep_hs, ep_wk, ep_wn, ep_ws, hk, idxT_all]
theorem f49 (l : List Gr.Cm) (ks : List Nd) (nl : OBo) (tt : Bool) (kn : OBo) (kt : Bool) (hs : Gr.smallB l = true) (hl : ks.length ≤ 4294967296) : call E 49 [.agg [.c (.sl 2 nl tt (Gr.repo l)), .c (.sl 3 kn kt (encL ks))]] [] = some ([V.i (checkW l ks)], []) := by
  refine call_of (E := E) (sh := sh) (ct := ctOf [(103, Gr.s103), (104, s104w)]) (na := 1) (m := 0) (ctOf_cons Gr.s103_ok (ctOf_cons s104w_ok ctOf_nil)) rfl rfl rfl rfl rfl rfl ?_
  rw [t49]
  simp only [nd_ok, nd_lab, nd_rows, nd_kids, encL_length, isL_enc, decL_enc, wrap_hd, hd_pos, ld_br, ld_chk', ld_leaf, fd_br, fd_chk', fd_leaf, decide_true, decide_eq_true_eq, if_true, Int.toNat_natCast, Int.natCast_nonneg, Int.ofNat_lt, Int.ofNat_le, Bool.false_eq_true, if_false, bne_iff_ne, beq_iff_eq, ne_eq, not_true_eq_false, not_false_eq_true, Bool.not_eq_true', decide_eq_false_iff_not, reduceCtorEq, rows_length, pcs_length, er_ok, er_ok', ep_ok, ep_ok', dr_er, dp_ep, isRows_rows, isPcs_pcs, toRows_rows, toPcs_pcs, rows_take, rows_drop, pcs_take, pcs_drop, rows_append, pcs_append, ints_length, isInts_ints, toInts_ints, ei_i, ei_ok, mk_headD, ints_take, ints_drop, ints_append, ints_snoc, ints_snoc', List.take_length, Nat.zero_add, Nat.le_refl, er_a, er_b, er_k, er_n, er_s, er_v, ep_a, ep_b, ep_hk, ep_hn, ep_hs, ep_wk, ep_wn, ep_ws, Gr.isRepo_repo, Gr.toRepo_repo, Gr.repo_length, hs, show ks.length ≤ 9223372036854775807 by omega]
  unfold checkW worldOk Gr.right
  by_cases c1 : (Gr.checkG l).2 = 0
  · by_cases c2 : ks.length = l.length
    · have c3 : (ks.length : Int) = l.length := by omega
      simp only [c1, c2, not_true_eq_false, if_false, decide_true, Bool.and_true, beq_self_eq_true, Bool.true_and]
      cases ks.all okR <;> simp
    · have c3 : ¬ (ks.length : Int) = l.length := by omega
      simp [c1, c2, c3]
  · simp [c1]
theorem s49_ok : CSpecOk E 49 s49 := by
  intro a h cs vals h' he hc
  unfold s49 at he
  split at he <;> simp only [Option.some.injEq, Prod.mk.injEq, reduceCtorEq] at he
  rename_i nl tt xs kn kt ys
  obtain ⟨rfl, rfl, rfl⟩ := he
  simp only [allT, Bool.and_true, Bool.and_eq_true, decide_eq_true_eq] at hc
  obtain ⟨h1, h2, h3, h4⟩ := hc
  obtain ⟨l, rfl⟩ := repo_ex h1
  obtain ⟨ks, rfl⟩ := isL_ex h3
  rw [encL_length] at h4
  rw [Gr.toRepo_repo] at h2
  rw [decL_enc, Gr.toRepo_repo]
  exact f49 l ks nl tt kn kt h2 h4
theorem f107 (n : Int) (nl : OBo) (tt : Bool) (xs : LLC) (kn : OBo) (kt : Bool) (ys : LLC) : call E 107 [V.i n, .ptr 0 0 0 0] [.box [.c (.sl 2 nl tt xs), .c (.sl 3 kn kt ys)]] = some ([V.b (Gr.noNum xs.length n)], [.box [.c (.sl 2 nl tt xs), .c (.sl 3 kn kt ys)]]) := by
  refine call_of (E := E) (sh := sh) (ct := ctOf []) (na := 2) (m := 1) ctOf_nil rfl rfl rfl rfl rfl rfl ?_
  rw [t107, fd_br, fd_leaf, fd_leaf]
  unfold Gr.noNum
  by_cases c : n < 1 <;> simp [c]
theorem s107_ok : CSpecOk E 107 s107 := by
  intro a h cs vals h' he hc
  unfold s107 at he
  split at he <;> simp only [Option.some.injEq, Prod.mk.injEq, reduceCtorEq] at he
  obtain ⟨rfl, rfl, rfl⟩ := he
  exact f107 _ _ _ _ _ _ _
theorem idxN_drop (m : Nat) {l : List Int} {k : Nat} (j : Nat) (hk : k < l.length) : idxN m (l.drop k) j = if Gr.noNum m l[k] = true then (j : Int) else idxN m (l.drop (k + 1)) (j + 1) := by
  rw [List.drop_eq_getElem_cons hk, idxN]
theorem ints_getD' {l : List Int} {k : Nat} (h : k < l.length) : (ints l).getD k [] = ei l[k] := by simp [ints, List.getD_eq_getElem?_getD, h]
theorem f143w (n1 : OBo) (t1 : Bool) (l : List Int) (nl : OBo) (tt : Bool) (xs : LLC) (kn : OBo) (kt : Bool) (ys : LLC) (hl : l.length ≤ 4294967296) : call E 143 [.c (.sl 1 n1 t1 (ints l)), .fn 107 [.ptr 0 0 0 0]] [.box [.c (.sl 2 nl tt xs), .c (.sl 3 kn kt ys)]] = some ([V.i (idxN xs.length l 0)], [.box [.c (.sl 2 nl tt xs), .c (.sl 3 kn kt ys)]]) := by
  have hct : (ctOf [(107, s107)]).ok E := ctOf_cons s107_ok ctOf_nil
  refine call_of (E := E) (sh := sh) (ct := ctOf [(107, s107)]) (na := 2) (m := 1) hct rfl rfl rfl rfl rfl rfl ?_
  rw [show p143w.ft _ _ = _ from t143w n1 t1 (ints l) nl tt xs kn kt ys, ints_length]
  refine fd_post (p := p143w) hct (by kernel_rfl) rfl (list_post (p := p143w) hct (b := b143w_0) l.length (fun k (_ : Unit) => s143w_0 n1 t1 (ints l) nl tt xs kn kt ys l.length k) (fun k _ => idxN xs.length (l.drop k) k = idxN xs.length l 0) _ ?_ ?_ 0 (Nat.zero_le _) () rfl)
  · intro k _ hk hi
    rw [idxN_drop _ _ hk] at hi
    have e : p143w.ld b143w_0 (p143w.lts b143w_0 (s143w_0 n1 t1 (ints l) nl tt xs kn kt ys l.length k)) = (if Gr.noNum xs.length l[k] = true then some (R.x (x143w_0x0 nl tt xs kn kt ys k)) else some (R.s (s143w_0 n1 t1 (ints l) nl tt xs kn kt ys l.length ((k + 1 : Nat) : Int)))) := by
      rw [t143w_0]
      simp only [ld_br, ld_chk', ld_leaf, fd_br, fd_chk', fd_leaf, decide_true, decide_eq_true_eq, if_true, Int.toNat_natCast, Int.natCast_nonneg, Int.ofNat_lt, Int.ofNat_le, Bool.false_eq_true, if_false, bne_iff_ne, beq_iff_eq, ne_eq, not_true_eq_false, not_false_eq_true, Bool.not_eq_true', decide_eq_false_iff_not, reduceCtorEq, rows_length, pcs_length, er_ok, er_ok', ep_ok, ep_ok', dr_er, dp_ep, isRows_rows, isPcs_pcs, toRows_rows, toPcs_pcs, rows_take, rows_drop, pcs_take, pcs_drop, rows_append, pcs_append, ints_length, isInts_ints, toInts_ints, ei_i, ei_ok, mk_headD, ints_take, ints_drop, ints_append, ints_snoc, ints_snoc', List.take_length, Nat.zero_add, Nat.le_refl, er_a, er_b, er_k, er_n, er_s, er_v, ep_a, ep_b, ep_hk, ep_hn, ep_hs, ep_wk, ep_wn, ep_ws, hk, ints_getD' hk, wrap_succ (show k < 9223372036854775807 by omega)]
    cases c : Gr.noNum xs.length l[k] with
    | false =>
      rw [c] at hi e
      exact .inl ⟨(), by simpa using hi, by rw [e]; rfl⟩
    | true =>
      rw [c] at hi e
      refine .inr ⟨x143w_0x0 nl tt xs kn kt ys k, by simp, ?_, by rw [e]; rfl⟩
      rw [k143w_0x0, fd_leaf, ← hi]; rfl
  · intro _ hi
    rw [List.drop_length] at hi
    refine ⟨x143w_0x1 n1 t1 (ints l) nl tt xs kn kt ys l.length l.length, by simp, ?_, ?_⟩
    · rw [k143w_0x1, fd_leaf, ← hi]; rfl
    · rw [t143w_0]; simp only [ld_br, ld_chk', ld_leaf, fd_br, fd_chk', fd_leaf, decide_true, decide_eq_true_eq, if_true, Int.toNat_natCast, Int.natCast_nonneg, Int.ofNat_lt, Int.ofNat_le, Bool.false_eq_true, if_false, bne_iff_ne, beq_iff_eq, ne_eq, not_true_eq_false, not_false_eq_true, Bool.not_eq_true', decide_eq_false_iff_not, reduceCtorEq, rows_length, pcs_length, er_ok, er_ok', ep_ok, ep_ok', dr_er, dp_ep, isRows_rows, isPcs_pcs, toRows_rows, toPcs_pcs, rows_take, rows_drop, pcs_take, pcs_drop, rows_append, pcs_append, ints_length, isInts_ints, toInts_ints, ei_i, ei_ok, mk_headD, ints_take, ints_drop, ints_append, ints_snoc, ints_snoc', List.take_length, Nat.zero_add, Nat.le_refl, er_a, er_b, er_k, er_n, er_s, er_v, ep_a, ep_b, ep_hk, ep_hn, ep_hs, ep_wk, ep_wn, ep_ws, Int.lt_irrefl]
theorem ints_ex {xs : List (List C)} (h : isInts xs = true) : ∃ l, xs = ints l := ⟨_, ints_of h⟩
theorem s143w_ok : CSpecOk E 143 s143w := by
  intro a h cs vals h' he hc
  unfold s143w at he
  split at he <;> simp only [Option.some.injEq, Prod.mk.injEq, reduceCtorEq] at he
  rename_i n1 t1 zs nl tt xs kn kt ys
  obtain ⟨rfl, rfl, rfl⟩ := he
  simp only [allT, Bool.and_true, Bool.and_eq_true, decide_eq_true_eq] at hc
  obtain ⟨l, rfl⟩ := ints_ex hc.1
  have h2 := hc.2
  rw [ints_length] at h2
  rw [toInts_ints]
  exact f143w n1 t1 l nl tt xs kn kt ys h2
theorem idxN_any (m : Nat) (l : List Int) (j : Nat) : decide (0 ≤ idxN m l j) = l.any (Gr.noNum m) := by
  induction l generalizing j with
  | nil => rfl
  | cons t r ih =>
    rw [idxN, List.any_cons]
    cases c : Gr.noNum m t with
    | false => simpa using ih (j + 1)
    | true => simp
theorem s106w_ok : CSpecOk E 106 s106w := by
  intro a h cs vals h' he hc
  unfold s106w at he
  split at he <;> simp only [Option.some.injEq, Prod.mk.injEq, reduceCtorEq] at he
  rename_i n1 t1 zs nl tt xs kn kt ys
  obtain ⟨rfl, rfl, rfl⟩ := he
  simp only [allT, Bool.and_true, Bool.and_eq_true, decide_eq_true_eq] at hc
  obtain ⟨l, rfl⟩ := ints_ex hc.1
  have h2 := hc.2
  rw [ints_length] at h2
  rw [toInts_ints]
  refine call_of (E := E) (sh := sh) (ct := ctOf [(143, s143w)]) (na := 2) (m := 1) (ctOf_cons s143w_ok ctOf_nil) rfl rfl rfl rfl rfl rfl ?_
  rw [show p106w.ft _ _ = _ from t106w n1 t1 (ints l) nl tt xs kn kt ys]
  simp only [ld_br, ld_chk', ld_leaf, fd_br, fd_chk', fd_leaf, decide_true, decide_eq_true_eq, if_true, Int.toNat_natCast, Int.natCast_nonneg, Int.ofNat_lt, Int.ofNat_le, Bool.false_eq_true, if_false, bne_iff_ne, beq_iff_eq, ne_eq, not_true_eq_false, not_false_eq_true, Bool.not_eq_true', decide_eq_false_iff_not, reduceCtorEq, rows_length, pcs_length, er_ok, er_ok', ep_ok, ep_ok', dr_er, dp_ep, isRows_rows, isPcs_pcs, toRows_rows, toPcs_pcs, rows_take, rows_drop, pcs_take, pcs_drop, rows_append, pcs_append, ints_length, isInts_ints, toInts_ints, ei_i, ei_ok, mk_headD, ints_take, ints_drop, ints_append, ints_snoc, ints_snoc', List.take_length, Nat.zero_add, Nat.le_refl, er_a, er_b, er_k, er_n, er_s, er_v, ep_a, ep_b, ep_hk, ep_hn, ep_hs, ep_wk, ep_wn, ep_ws, h2, idxN_any]
theorem f53 (l : List Gr.Cm) (ks : List Nd) (ns : List Int) (nl : OBo) (tt : Bool) (kn : OBo) (kt : Bool) (n1 : OBo) (t1 : Bool) (hs : Gr.smallB l = true) (hl : ks.length ≤ 4294967296) (hn : ns.length ≤ 4294967296) : call E 53 [.agg [.c (.sl 2 nl tt (Gr.repo l)), .c (.sl 3 kn kt (encL ks))], .c (.sl 1 n1 t1 (ints ns))] [] = some ([V.i (mayW l ks ns)], []) := by
  refine call_of (E := E) (sh := sh) (ct := ctOf [(49, s49), (106, s106w)]) (na := 2) (m := 0) (ctOf_cons s49_ok (ctOf_cons s106w_ok ctOf_nil)) rfl rfl rfl rfl rfl rfl ?_
  rw [t53]
  simp only [nd_ok, nd_lab, nd_rows, nd_kids, encL_length, isL_enc, decL_enc, wrap_hd, hd_pos, ld_br, ld_chk', ld_leaf, fd_br, fd_chk', fd_leaf, decide_true, decide_eq_true_eq, if_true, Int.toNat_natCast, Int.natCast_nonneg, Int.ofNat_lt, Int.ofNat_le, Bool.false_eq_true, if_false, bne_iff_ne, beq_iff_eq, ne_eq, not_true_eq_false, not_false_eq_true, Bool.not_eq_true', decide_eq_false_iff_not, reduceCtorEq, rows_length, pcs_length, er_ok, er_ok', ep_ok, ep_ok', dr_er, dp_ep, isRows_rows, isPcs_pcs, toRows_rows, toPcs_pcs, rows_take, rows_drop, pcs_take, pcs_drop, rows_append, pcs_append, ints_length, isInts_ints, toInts_ints, ei_i, ei_ok, mk_headD, ints_take, ints_drop, ints_append, ints_snoc, ints_snoc', List.take_length, Nat.zero_add, Nat.le_refl, er_a, er_b, er_k, er_n, er_s, er_v, ep_a, ep_b, ep_hk, ep_hn, ep_hs, ep_wk, ep_wn, ep_ws, Gr.isRepo_repo, Gr.toRepo_repo, Gr.repo_length, hs, hl, hn]
  unfold checkW mayW
  cases worldOk l ks <;> cases ns.any (Gr.noNum l.length) <;> simp
theorem s53_ok : CSpecOk E 53 s53 := by
  intro a h cs vals h' he hc
  unfold s53 at he
  split at he <;> simp only [Option.some.injEq, Prod.mk.injEq, reduceCtorEq] at he
  rename_i nl tt xs kn kt ys n1 t1 zs
  obtain ⟨rfl, rfl, rfl⟩ := he
  simp only [allT, Bool.and_true, Bool.and_eq_true, decide_eq_true_eq] at hc
  obtain ⟨h1, h2, h3, h4, h5, h6⟩ := hc
  obtain ⟨l, rfl⟩ := repo_ex h1
  obtain ⟨ks, rfl⟩ := isL_ex h3
  obtain ⟨ns, rfl⟩ := ints_ex h5
  rw [encL_length] at h4
  rw [ints_length] at h6
  rw [Gr.toRepo_repo] at h2
  rw [decL_enc, Gr.toRepo_repo, toInts_ints]
  exact f53 l ks ns nl tt kn kt n1 t1 h2 h4 h6
theorem wrap_p (p : Int) (h : 1 ≤ p) (h2 : p ≤ 4294967296) : IntKind.wrap .i64 (p - 1) = (((p - 1).toNat : Nat) : Int) := by rw [wrap_same (by omega) (by omega)]; omega
theorem treeN_at {ts : List Nd} {p : Int} (h1 : 1 ≤ p) (h2 : p ≤ ts.length) : ∃ h : (p - 1).toNat < ts.length, treeN ts p = ts[(p - 1).toNat] := by
  have h : (p - 1).toNat < ts.length := by omega
  exact ⟨h, getD_at' h⟩
theorem pars_at {l : List Gr.Cm} {p : Int} (h1 : 1 ≤ p) (h2 : p ≤ l.length) : ∃ h : (p - 1).toNat < l.length, parsN l p = (l[(p - 1).toNat]).1 := by
  have h : (p - 1).toNat < l.length := by omega
  exact ⟨h, by unfold parsN; rw [List.getD_eq_getElem?_getD, List.getElem?_eq_getElem h]; rfl⟩
theorem f54 (l : List Gr.Cm) (ks : List Nd) (n : Int) (nl : OBo) (tt : Bool) (kn : OBo) (kt : Bool) (h1 : 1 ≤ n) (h2 : n ≤ l.length) (hl : l.length ≤ 4294967296) (hk : ks.length ≤ 4294967296) (hb : baseOk l ks n = true) : call E 54 [.agg [.c (.sl 2 nl tt (Gr.repo l)), .c (.sl 3 kn kt (encL ks))], V.i n] [] = some ([VT (baseN l ks n)], []) := by
  refine call_of (E := E) (sh := sh) (ct := ctOf []) (na := 2) (m := 0) ctOf_nil rfl rfl rfl rfl rfl rfl ?_
  obtain ⟨g1, g2⟩ := pars_at h1 h2
  unfold baseOk at hb
  unfold baseN
  rw [g2] at hb ⊢
  rw [t54, wrap_p n h1 (by omega)]
  simp only [nd_ok, nd_lab, nd_rows, nd_kids, encL_length, isL_enc, decL_enc, wrap_hd, hd_pos, ld_br, ld_chk', ld_leaf, fd_br, fd_chk', fd_leaf, decide_true, decide_eq_true_eq, if_true, Int.toNat_natCast, Int.natCast_nonneg, Int.ofNat_lt, Int.ofNat_le, Bool.false_eq_true, if_false, bne_iff_ne, beq_iff_eq, ne_eq, not_true_eq_false, not_false_eq_true, Bool.not_eq_true', decide_eq_false_iff_not, reduceCtorEq, rows_length, pcs_length, er_ok, er_ok', ep_ok, ep_ok', dr_er, dp_ep, isRows_rows, isPcs_pcs, toRows_rows, toPcs_pcs, rows_take, rows_drop, pcs_take, pcs_drop, rows_append, pcs_append, ints_length, isInts_ints, toInts_ints, ei_i, ei_ok, mk_headD, ints_take, ints_drop, ints_append, ints_snoc, ints_snoc', List.take_length, Nat.zero_add, Nat.le_refl, er_a, er_b, er_k, er_n, er_s, er_v, ep_a, ep_b, ep_hk, ep_hn, ep_hs, ep_wk, ep_wn, ep_ws, Gr.repo_length, g1, Gr.repo_getD g1, Gr.ec_ok, Gr.ec_par]
  cases hp : (l[(n - 1).toNat]).1 with
  | nil => simp; exact ⟨rfl, rfl, rfl⟩
  | cons p r =>
    rw [hp] at hb
    simp only [Bool.and_eq_true, decide_eq_true_eq] at hb
    obtain ⟨k1, k2⟩ := treeN_at hb.1 hb.2
    have e0 : (ints (p :: r)).getD (Int.toNat 0) [] = ei p := rfl
    have e1 : (0 : Int) < (((p :: r).length : Nat) : Int) := by rw [List.length_cons]; omega
    have e2 : Int.toNat 0 < (p :: r).length := Nat.succ_pos _
    simp only [nd_ok, nd_lab, nd_rows, nd_kids, encL_length, isL_enc, decL_enc, wrap_hd, hd_pos, ld_br, ld_chk', ld_leaf, fd_br, fd_chk', fd_leaf, decide_true, decide_eq_true_eq, if_true, Int.toNat_natCast, Int.natCast_nonneg, Int.ofNat_lt, Int.ofNat_le, Bool.false_eq_true, if_false, bne_iff_ne, beq_iff_eq, ne_eq, not_true_eq_false, not_false_eq_true, Bool.not_eq_true', decide_eq_false_iff_not, reduceCtorEq, rows_length, pcs_length, er_ok, er_ok', ep_ok, ep_ok', dr_er, dp_ep, isRows_rows, isPcs_pcs, toRows_rows, toPcs_pcs, rows_take, rows_drop, pcs_take, pcs_drop, rows_append, pcs_append, ints_length, isInts_ints, toInts_ints, ei_i, ei_ok, mk_headD, ints_take, ints_drop, ints_append, ints_snoc, ints_snoc', List.take_length, Nat.zero_add, Nat.le_refl, er_a, er_b, er_k, er_n, er_s, er_v, ep_a, ep_b, ep_hk, ep_hn, ep_hs, ep_wk, ep_wn, ep_ws, e0, e1, e2, wrap_p p hb.1 (by omega), k1, encL_getD k1, k2]
theorem s54_ok : CSpecOk E 54 s54 := by
  intro a h cs vals h' he hc
  unfold s54 at he
  split at he <;> simp only [Option.some.injEq, Prod.mk.injEq, reduceCtorEq] at he
  rename_i nl tt xs kn kt ys n
  obtain ⟨rfl, rfl, rfl⟩ := he
  simp only [allT, Bool.and_true, Bool.and_eq_true, decide_eq_true_eq] at hc
  obtain ⟨h1, h2, h3, h4, h5, h6, h7⟩ := hc
  obtain ⟨l, rfl⟩ := repo_ex h1
  obtain ⟨ks, rfl⟩ := isL_ex h2
  rw [Gr.repo_length] at h4 h5
  rw [encL_length] at h6
  rw [decL_enc, Gr.toRepo_repo] at h7 ⊢
  exact f54 l ks n nl tt kn kt h3 h4 h5 h6 h7
structure Wd (l : List Gr.Cm) (ts : List Nd) : Prop where
  right : Gr.right l = true
  len : ts.length = l.length
  ok : ∀ t ∈ ts, okR t = true
theorem wd_of {l : List Gr.Cm} {ts : List Nd} (h : worldOk l ts = true) : Wd l ts := by
  simp only [worldOk, Bool.and_eq_true, decide_eq_true_eq] at h
  exact ⟨h.1.1, h.1.2, List.all_eq_true.1 h.2⟩
theorem Wd.base {l : List Gr.Cm} {ts : List Nd} (w : Wd l ts) {n : Int} (h1 : 1 ≤ n) (h2 : n ≤ l.length) : baseOk l ts n = true ∧ ∀ p r, parsN l n = p :: r → 1 ≤ p ∧ p ≤ ts.length := by
  obtain ⟨g1, g2⟩ := pars_at h1 h2
  have key : ∀ p r, parsN l n = p :: r → 1 ≤ p ∧ p ≤ ts.length := fun p r hp => by
    have := Gr.right_par w.right (List.getElem?_eq_getElem g1) p (by rw [← g2, hp]; simp)
    have hl := w.len
    omega
  refine ⟨?_, key⟩
  unfold baseOk
  cases hp : parsN l n with
  | nil => rfl
  | cons p r =>
    have := key p r hp
    simp [this.1, this.2]
theorem Wd.tree {l : List Gr.Cm} {ts : List Nd} (w : Wd l ts) {n : Int} (h1 : 1 ≤ n) (h2 : n ≤ ts.length) : okR (treeN ts n) = true := by
  obtain ⟨k1, k2⟩ := treeN_at h1 h2
  rw [k2]; exact w.ok _ (List.getElem_mem k1)
theorem Wd.baseok {l : List Gr.Cm} {ts : List Nd} (w : Wd l ts) {n : Int} (h1 : 1 ≤ n) (h2 : n ≤ l.length) : okR (baseN l ts n) = true := by
  have h := (w.base h1 h2).2
  unfold baseN
  cases hp : parsN l n with
  | nil => exact nd0_ok
  | cons p r => exact w.tree (h p r hp).1 (h p r hp).2
theorem fewT_at {ts : List Nd} (h : fewT ts = true) {n : Int} (h1 : 1 ≤ n) (h2 : n ≤ ts.length) : (entL (treeN ts n).kids).length < 1000000000 := by
  obtain ⟨k1, k2⟩ := treeN_at h1 h2
  rw [k2]
  have := List.all_eq_true.1 h _ (List.getElem_mem k1)
  simpa using this
theorem may_in {l : List Gr.Cm} {ts : List Nd} {n m : Int} (h : mayW l ts [n, m] = 0) : Wd l ts ∧ (1 ≤ n ∧ n ≤ l.length) ∧ (1 ≤ m ∧ m ≤ l.length) := by
  unfold mayW at h
  by_cases hw : worldOk l ts = true
  · rw [if_pos hw] at h
    by_cases hn : [n, m].any (Gr.noNum l.length) = true
    · rw [if_pos hn] at h; omega
    · rw [Bool.not_eq_true] at hn
      simp only [List.any_cons, List.any_nil, Bool.or_false, Bool.or_eq_false_iff, Gr.noNum, decide_eq_false_iff_not] at hn
      exact ⟨wd_of hw, ⟨by omega, by omega⟩, ⟨by omega, by omega⟩⟩
  · rw [if_neg hw] at h; omega
theorem hct16 : (ctOf [(53, s53), (54, s54), (43, s43)]).ok E := ctOf_cons s53_ok (ctOf_cons s54_ok (ctOf_cons s43_ok ctOf_nil))
theorem ints2 (n m : Int) : toInts [[C.int IntKind.i64 n], [C.int IntKind.i64 m]] = [n, m] := rfl
theorem fewB {l : List Gr.Cm} {ts : List Nd} (w : Wd l ts) (h : fewT ts = true) {n : Int} (h1 : 1 ≤ n) (h2 : n ≤ l.length) : (entL (baseN l ts n).kids).length < 1000000000 := by
  have hb := (w.base h1 h2).2
  unfold baseN
  cases hp : parsN l n with
  | nil => show (entL []).length < _; simp [entL]
  | cons p r => exact fewT_at h (hb p r hp).1 (hb p r hp).2
theorem f16 (l : List Gr.Cm) (ks : List Nd) (n m : Int) (nl : OBo) (tt : Bool) (kn : OBo) (kt : Bool) (hs : Gr.smallB l = true) (hk : ks.length ≤ 4294967296) (hf : fewT ks = true) :
    call E 16 [.agg [.c (.sl 2 nl tt (Gr.repo l)), .c (.sl 3 kn kt (encL ks))], V.i n, V.i m] [] = some ([VT (pickP l ks n m).1, .c (.sl 1 none false (strs (pickP l ks n m).2.1)), V.i (pickP l ks n m).2.2], []) := by
  refine call_of (E := E) (sh := sh) (ct := ctOf [(53, s53), (54, s54), (43, s43)]) (na := 3) (m := 0) hct16 rfl rfl rfl rfl rfl rfl ?_
  rw [t16]
  unfold pickP
  simp only [c16_1, c16_2, c16_3, nd_ok, nd_lab, nd_rows, nd_kids, encL_length, isL_enc, decL_enc, wrap_hd, hd_pos, ld_br, ld_chk', ld_leaf, fd_br, fd_chk', fd_leaf, decide_true, decide_eq_true_eq, if_true, Int.toNat_natCast, Int.natCast_nonneg, Int.ofNat_lt, Int.ofNat_le, Bool.false_eq_true, if_false, bne_iff_ne, beq_iff_eq, ne_eq, not_true_eq_false, not_false_eq_true, Bool.not_eq_true', decide_eq_false_iff_not, reduceCtorEq, rows_length, pcs_length, er_ok, er_ok', ep_ok, ep_ok', dr_er, dp_ep, isRows_rows, isPcs_pcs, toRows_rows, toPcs_pcs, rows_take, rows_drop, pcs_take, pcs_drop, rows_append, pcs_append, ints_length, isInts_ints, toInts_ints, ei_i, ei_ok, mk_headD, ints_take, ints_drop, ints_append, ints_snoc, ints_snoc', List.take_length, Nat.zero_add, Nat.le_refl, er_a, er_b, er_k, er_n, er_s, er_v, ep_a, ep_b, ep_hk, ep_hn, ep_hs, ep_wk, ep_wn, ep_ws, Gr.isRepo_repo, Gr.toRepo_repo, Gr.repo_length, hs, hk, ints2]
  by_cases h0 : mayW l ks [n, m] = 0
  case neg => rw [if_pos h0, if_neg h0]; rfl
  obtain ⟨w, ⟨n1, n2⟩, ⟨m1, m2⟩⟩ := may_in h0
  have hl := w.len
  obtain ⟨kn1, kn2⟩ := treeN_at (ts := ks) n1 (by omega)
  obtain ⟨km1, km2⟩ := treeN_at (ts := ks) m1 (by omega)
  have b1 := (w.base n1 n2).1
  have e1 := fewB w hf n1 n2
  have e2 := fewT_at hf n1 (by omega : n ≤ ks.length)
  have e3 := fewT_at hf m1 (by omega : m ≤ ks.length)
  rw [kn2] at e2
  rw [km2] at e3
  rw [if_neg (by simpa using h0), if_pos h0, kn2, km2]
  simp only [nd_ok, nd_lab, nd_rows, nd_kids, encL_length, isL_enc, decL_enc, wrap_hd, hd_pos, ld_br, ld_chk', ld_leaf, fd_br, fd_chk', fd_leaf, decide_true, decide_eq_true_eq, if_true, Int.toNat_natCast, Int.natCast_nonneg, Int.ofNat_lt, Int.ofNat_le, Bool.false_eq_true, if_false, bne_iff_ne, beq_iff_eq, ne_eq, not_true_eq_false, not_false_eq_true, Bool.not_eq_true', decide_eq_false_iff_not, reduceCtorEq, rows_length, pcs_length, er_ok, er_ok', ep_ok, ep_ok', dr_er, dp_ep, isRows_rows, isPcs_pcs, toRows_rows, toPcs_pcs, rows_take, rows_drop, pcs_take, pcs_drop, rows_append, pcs_append, ints_length, isInts_ints, toInts_ints, ei_i, ei_ok, mk_headD, ints_take, ints_drop, ints_append, ints_snoc, ints_snoc', List.take_length, Nat.zero_add, Nat.le_refl, er_a, er_b, er_k, er_n, er_s, er_v, ep_a, ep_b, ep_hk, ep_hn, ep_hs, ep_wk, ep_wn, ep_ws, n1, n2, show l.length ≤ 4294967296 by omega, b1, wrap_p n n1 (by omega), wrap_p m m1 (by omega), kn1, km1, encL_getD kn1, encL_getD km1, Nd.eta, e1, e2, e3]
theorem f18 (l : List Gr.Cm) (ks : List Nd) (n m : Int) (nl : OBo) (tt : Bool) (kn : OBo) (kt : Bool) (hs : Gr.smallB l = true) (hk : ks.length ≤ 4294967296) (hf : fewT ks = true) :
    call E 18 [.agg [.c (.sl 2 nl tt (Gr.repo l)), .c (.sl 3 kn kt (encL ks))], V.i n, V.i m] [] = some ([VT (revP l ks n m).1, .c (.sl 1 none false (strs (revP l ks n m).2.1)), V.i (revP l ks n m).2.2], []) := by
  refine call_of (E := E) (sh := sh) (ct := ctOf [(53, s53), (54, s54), (43, s43)]) (na := 3) (m := 0) hct16 rfl rfl rfl rfl rfl rfl ?_
  rw [t18]
  unfold revP
  simp only [c18_1, c18_2, c18_3, nd_ok, nd_lab, nd_rows, nd_kids, encL_length, isL_enc, decL_enc, wrap_hd, hd_pos, ld_br, ld_chk', ld_leaf, fd_br, fd_chk', fd_leaf, decide_true, decide_eq_true_eq, if_true, Int.toNat_natCast, Int.natCast_nonneg, Int.ofNat_lt, Int.ofNat_le, Bool.false_eq_true, if_false, bne_iff_ne, beq_iff_eq, ne_eq, not_true_eq_false, not_false_eq_true, Bool.not_eq_true', decide_eq_false_iff_not, reduceCtorEq, rows_length, pcs_length, er_ok, er_ok', ep_ok, ep_ok', dr_er, dp_ep, isRows_rows, isPcs_pcs, toRows_rows, toPcs_pcs, rows_take, rows_drop, pcs_take, pcs_drop, rows_append, pcs_append, ints_length, isInts_ints, toInts_ints, ei_i, ei_ok, mk_headD, ints_take, ints_drop, ints_append, ints_snoc, ints_snoc', List.take_length, Nat.zero_add, Nat.le_refl, er_a, er_b, er_k, er_n, er_s, er_v, ep_a, ep_b, ep_hk, ep_hn, ep_hs, ep_wk, ep_wn, ep_ws, Gr.isRepo_repo, Gr.toRepo_repo, Gr.repo_length, hs, hk, ints2]
  by_cases h0 : mayW l ks [n, m] = 0
  case neg => rw [if_pos h0, if_neg h0]; rfl
  obtain ⟨w, ⟨n1, n2⟩, ⟨m1, m2⟩⟩ := may_in h0
  have hl := w.len
  obtain ⟨kn1, kn2⟩ := treeN_at (ts := ks) n1 (by omega)
  obtain ⟨km1, km2⟩ := treeN_at (ts := ks) m1 (by omega)
  have b1 := (w.base n1 n2).1
  have e1 := fewB w hf n1 n2
  have e2 := fewT_at hf n1 (by omega : n ≤ ks.length)
  have e3 := fewT_at hf m1 (by omega : m ≤ ks.length)
  rw [kn2] at e2
  rw [km2] at e3
  rw [if_neg (by simpa using h0), if_pos h0, kn2, km2]
  simp only [nd_ok, nd_lab, nd_rows, nd_kids, encL_length, isL_enc, decL_enc, wrap_hd, hd_pos, ld_br, ld_chk', ld_leaf, fd_br, fd_chk', fd_leaf, decide_true, decide_eq_true_eq, if_true, Int.toNat_natCast, Int.natCast_nonneg, Int.ofNat_lt, Int.ofNat_le, Bool.false_eq_true, if_false, bne_iff_ne, beq_iff_eq, ne_eq, not_true_eq_false, not_false_eq_true, Bool.not_eq_true', decide_eq_false_iff_not, reduceCtorEq, rows_length, pcs_length, er_ok, er_ok', ep_ok, ep_ok', dr_er, dp_ep, isRows_rows, isPcs_pcs, toRows_rows, toPcs_pcs, rows_take, rows_drop, pcs_take, pcs_drop, rows_append, pcs_append, ints_length, isInts_ints, toInts_ints, ei_i, ei_ok, mk_headD, ints_take, ints_drop, ints_append, ints_snoc, ints_snoc', List.take_length, Nat.zero_add, Nat.le_refl, er_a, er_b, er_k, er_n, er_s, er_v, ep_a, ep_b, ep_hk, ep_hn, ep_hs, ep_wk, ep_wn, ep_ws, n1, n2, show l.length ≤ 4294967296 by omega, b1, wrap_p n n1 (by omega), wrap_p m m1 (by omega), kn1, km1, encL_getD kn1, encL_getD km1, Nd.eta, e1, e2, e3]
theorem s16_ok : CSpecOk E 16 s16 := by
  intro a h cs vals h' he hc
  unfold s16 at he
  split at he <;> simp only [Option.some.injEq, Prod.mk.injEq, reduceCtorEq] at he
  rename_i nl tt xs kn kt ys n m
  obtain ⟨rfl, rfl, rfl⟩ := he
  simp only [allT, Bool.and_true, Bool.and_eq_true, decide_eq_true_eq] at hc
  obtain ⟨h1, h2, h3, h4, h5⟩ := hc
  obtain ⟨l, rfl⟩ := repo_ex h1
  obtain ⟨ks, rfl⟩ := isL_ex h3
  rw [encL_length] at h4
  rw [decL_enc] at h5
  rw [Gr.toRepo_repo] at h2
  rw [decL_enc, Gr.toRepo_repo]
  exact f16 l ks n m nl tt kn kt h2 h4 h5
theorem s18_ok : CSpecOk E 18 s18 := by
  intro a h cs vals h' he hc
  unfold s18 at he
  split at he <;> simp only [Option.some.injEq, Prod.mk.injEq, reduceCtorEq] at he
  rename_i nl tt xs kn kt ys n m
  obtain ⟨rfl, rfl, rfl⟩ := he
  simp only [allT, Bool.and_true, Bool.and_eq_true, decide_eq_true_eq] at hc
  obtain ⟨h1, h2, h3, h4, h5⟩ := hc
  obtain ⟨l, rfl⟩ := repo_ex h1
  obtain ⟨ks, rfl⟩ := isL_ex h3
  rw [encL_length] at h4
  rw [decL_enc] at h5
  rw [Gr.toRepo_repo] at h2
  rw [decL_enc, Gr.toRepo_repo]
  exact f18 l ks n m nl tt kn kt h2 h4 h5
theorem f14 (l : List Gr.Cm) (ks : List Nd) (n : Int) (nl : OBo) (tt : Bool) (kn : OBo) (kt : Bool) (hs : Gr.smallB l = true) (hk : ks.length ≤ 4294967296) : call E 14 [.agg [.c (.sl 2 nl tt (Gr.repo l)), .c (.sl 3 kn kt (encL ks))], V.i n] [] = some ([V.b (isW l ks n)], []) := by
  refine call_of (E := E) (sh := sh) (ct := ctOf [(49, s49)]) (na := 2) (m := 0) (ctOf_cons s49_ok ctOf_nil) rfl rfl rfl rfl rfl rfl ?_
  rw [t14]
  simp only [nd_ok, nd_lab, nd_rows, nd_kids, encL_length, isL_enc, decL_enc, wrap_hd, hd_pos, ld_br, ld_chk', ld_leaf, fd_br, fd_chk', fd_leaf, decide_true, decide_eq_true_eq, if_true, Int.toNat_natCast, Int.natCast_nonneg, Int.ofNat_lt, Int.ofNat_le, Bool.false_eq_true, if_false, bne_iff_ne, beq_iff_eq, ne_eq, not_true_eq_false, not_false_eq_true, Bool.not_eq_true', decide_eq_false_iff_not, reduceCtorEq, rows_length, pcs_length, er_ok, er_ok', ep_ok, ep_ok', dr_er, dp_ep, isRows_rows, isPcs_pcs, toRows_rows, toPcs_pcs, rows_take, rows_drop, pcs_take, pcs_drop, rows_append, pcs_append, ints_length, isInts_ints, toInts_ints, ei_i, ei_ok, mk_headD, ints_take, ints_drop, ints_append, ints_snoc, ints_snoc', List.take_length, Nat.zero_add, Nat.le_refl, er_a, er_b, er_k, er_n, er_s, er_v, ep_a, ep_b, ep_hk, ep_hn, ep_hs, ep_wk, ep_wn, ep_ws, Gr.isRepo_repo, Gr.toRepo_repo, Gr.repo_length, hs, hk]
  unfold checkW isW
  by_cases hw : worldOk l ks = true
  · have hl := (wd_of hw).len
    have hl2 : (ks.length : Int) = l.length := by omega
    by_cases c1 : 1 ≤ n <;> by_cases c2 : n ≤ l.length <;> simp [hw, hl2, c1, c2]
  · simp [hw]
theorem s14_ok : CSpecOk E 14 s14 := by
  intro a h cs vals h' he hc
  unfold s14 at he
  split at he <;> simp only [Option.some.injEq, Prod.mk.injEq, reduceCtorEq] at he
  rename_i nl tt xs kn kt ys n
  obtain ⟨rfl, rfl, rfl⟩ := he
  simp only [allT, Bool.and_true, Bool.and_eq_true, decide_eq_true_eq] at hc
  obtain ⟨h1, h2, h3, h4⟩ := hc
  obtain ⟨l, rfl⟩ := repo_ex h1
  obtain ⟨ks, rfl⟩ := isL_ex h3
  rw [encL_length] at h4
  rw [Gr.toRepo_repo] at h2
  rw [decL_enc, Gr.toRepo_repo]
  exact f14 l ks n nl tt kn kt h2 h4
end Go.Proofs.YtgaabjmbnomimaaDoor
namespace Go.Proofs.YtgaabjmbnomimaaDoor
open Go Go.Ev
def rowV (n : Int) : Row := ⟨0, 9, ⟨1, n, []⟩⟩
def leaf1 (b : UInt8) (n : Int) : Nd := .node [b] [rowV n] []
def tA1 : Nd := .node [] [] [leaf1 97 49]
def tA1B2 : Nd := .node [] [] [leaf1 97 49, leaf1 98 50]
def tA5 : Nd := .node [] [] [leaf1 97 53]
def tA5B2 : Nd := .node [] [] [leaf1 97 53, leaf1 98 50]
def threeV : V := .agg [.c (.sl 2 none false [[.sl 1 (some true) true [], .int .i64 1], [.sl 1 (some false) true [[.int .i64 1]], .int .i64 2], [.sl 1 (some false) true [[.int .i64 1]], .int .i64 3]]), .c (.sl 3 none false (encL [tA1, tA1B2, tA5]))]
set_option maxRecDepth 100000
theorem pt50 : call E 50 [] [] = some ([threeV], []) := call_iff.2 ⟨300, by kernel_rfl⟩
theorem pt51a : call E 51 [.c (.str [97, 53, 98, 50])] [] = some ([VT tA5B2], []) := call_iff.2 ⟨300, by kernel_rfl⟩
theorem pt51b : call E 51 [.c (.str [97, 49])] [] = some ([VT tA1], []) := call_iff.2 ⟨300, by kernel_rfl⟩
theorem pt16 : call E 16 [threeV, V.i 2, V.i 3] [] = some ([VT tA5B2, .c (.sl 1 none false []), V.i 0], []) := call_iff.2 ⟨400, by kernel_rfl⟩
theorem pt18 : call E 18 [threeV, V.i 3, V.i 3] [] = some ([VT tA1, .c (.sl 1 none false []), V.i 0], []) := call_iff.2 ⟨400, by kernel_rfl⟩
end Go.Proofs.YtgaabjmbnomimaaDoor
namespace Go.Proofs.YtgaabjmbnomimaaDoor
open Go Go.Ev
set_option maxRecDepth 100000
theorem pt19 : call E 19 [threeV, V.i 3, V.i 2] [] = some ([.c (.sl 1 none false [[.int .i64 2]]), V.i 0], []) := call_iff.2 ⟨800, by kernel_rfl⟩
end Go.Proofs.YtgaabjmbnomimaaDoor
namespace Go.Proofs.YtgaabjmbnomimaaDoor
open Go Go.Ev
set_option maxRecDepth 100000
def s50 : CSpec := fun a h => match a, h with
  | [], [] => some ([], [threeV], [])
  | _, _ => none
theorem s50_ok : CSpecOk E 50 s50 := by
  intro a h cs vals h' he hc
  unfold s50 at he
  split at he <;> simp only [Option.some.injEq, Prod.mk.injEq, reduceCtorEq] at he
  obtain ⟨rfl, rfl, rfl⟩ := he
  exact pt50
def s51 : CSpec := fun a h => match a, h with
  | [.c (.str s)], [] => some ([decide (s = [97, 53, 98, 50] ∨ s = [97, 49])], [VT (if s = [97, 53, 98, 50] then tA5B2 else tA1)], [])
  | _, _ => none
theorem s51_ok : CSpecOk E 51 s51 := by
  intro a h cs vals h' he hc
  unfold s51 at he
  split at he <;> simp only [Option.some.injEq, Prod.mk.injEq, reduceCtorEq] at he
  rename_i s
  obtain ⟨rfl, rfl, rfl⟩ := he
  simp only [allT, Bool.and_true, decide_eq_true_eq] at hc
  by_cases h0 : s = [97, 53, 98, 50]
  · rw [if_pos h0, h0]; exact pt51a
  · rw [if_neg h0, hc.resolve_left h0]; exact pt51b
def s16p : CSpec := fun a h => match a, h with
  | [w, .c (.int .i64 n), .c (.int .i64 m)], [] => some ([eqbV [w] [threeV], decide (n = 2), decide (m = 3)], [VT tA5B2, .c (.sl 1 none false []), V.i 0], [])
  | _, _ => none
theorem s16p_ok : CSpecOk E 16 s16p := by
  intro a h cs vals h' he hc
  unfold s16p at he
  split at he <;> simp only [Option.some.injEq, Prod.mk.injEq, reduceCtorEq] at he
  rename_i w n m
  obtain ⟨rfl, rfl, rfl⟩ := he
  simp only [allT, Bool.and_true, Bool.and_eq_true, decide_eq_true_eq] at hc
  obtain ⟨h1, rfl, rfl⟩ := hc
  have := eqbV_eq h1
  simp only [List.cons.injEq, and_true] at this
  rw [this]; exact pt16
def s18p : CSpec := fun a h => match a, h with
  | [w, .c (.int .i64 n), .c (.int .i64 m)], [] => some ([eqbV [w] [threeV], decide (n = 3), decide (m = 3)], [VT tA1, .c (.sl 1 none false []), V.i 0], [])
  | _, _ => none
theorem s18p_ok : CSpecOk E 18 s18p := by
  intro a h cs vals h' he hc
  unfold s18p at he
  split at he <;> simp only [Option.some.injEq, Prod.mk.injEq, reduceCtorEq] at he
  rename_i w n m
  obtain ⟨rfl, rfl, rfl⟩ := he
  simp only [allT, Bool.and_true, Bool.and_eq_true, decide_eq_true_eq] at hc
  obtain ⟨h1, rfl, rfl⟩ := hc
  have := eqbV_eq h1
  simp only [List.cons.injEq, and_true] at this
  rw [this]; exact pt18
def s19p : CSpec := fun a h => match a, h with
  | [w, .c (.int .i64 n), .c (.int .i64 m)], [] => some ([eqbV [w] [threeV], decide (n = 3), decide (m = 2)], [.c (.sl 1 none false [[.int .i64 2]]), V.i 0], [])
  | _, _ => none
theorem s19p_ok : CSpecOk E 19 s19p := by
  intro a h cs vals h' he hc
  unfold s19p at he
  split at he <;> simp only [Option.some.injEq, Prod.mk.injEq, reduceCtorEq] at he
  rename_i w n m
  obtain ⟨rfl, rfl, rfl⟩ := he
  simp only [allT, Bool.and_true, Bool.and_eq_true, decide_eq_true_eq] at hc
  obtain ⟨h1, rfl, rfl⟩ := hc
  have := eqbV_eq h1
  simp only [List.cons.injEq, and_true] at this
  rw [this]; exact pt19
theorem pt52 (n : OBo) (t : Bool) (n2 : OBo) (t2 : Bool) : call E 52 [.c (.sl 1 n t [[.int .i64 2]]), .c (.sl 1 n2 t2 [[.int .i64 2]])] [] = some ([V.b true], []) := call_iff.2 ⟨50, by kernel_rfl⟩
def s52p : CSpec := fun a h => match a, h with
  | [.c (.sl 1 n t [[.int .i64 x]]), .c (.sl 1 n2 t2 [[.int .i64 y]])], [] => some ([decide (x = 2), decide (y = 2)], [V.b true], [])
  | _, _ => none
theorem s52p_ok : CSpecOk E 52 s52p := by
  intro a h cs vals h' he hc
  unfold s52p at he
  split at he <;> simp only [Option.some.injEq, Prod.mk.injEq, reduceCtorEq] at he
  rename_i n t x n2 t2 y
  obtain ⟨rfl, rfl, rfl⟩ := he
  simp only [allT, Bool.and_true, Bool.and_eq_true, decide_eq_true_eq] at hc
  obtain ⟨rfl, rfl⟩ := hc
  exact pt52 n t n2 t2
theorem f15 : call E 15 [] [] = some ([V.b true], []) := by
  have hct : (ctOf [(16, s16p), (17, s17n), (18, s18p), (19, s19p), (50, s50), (51, s51), (52, s52p)]).ok E := ctOf_cons s16p_ok (ctOf_cons s17n_ok (ctOf_cons s18p_ok (ctOf_cons s19p_ok (ctOf_cons s50_ok (ctOf_cons s51_ok (ctOf_cons s52p_ok ctOf_nil))))))
  refine call_of (E := E) (sh := sh) (ct := ctOf [(16, s16p), (17, s17n), (18, s18p), (19, s19p), (50, s50), (51, s51), (52, s52p)]) (na := 0) (m := 0) hct rfl rfl rfl rfl rfl rfl ?_
  kernel_rfl
end Go.Proofs.YtgaabjmbnomimaaDoor
namespace Go.Proofs.YtgaabjmbnomimaaDoor
open Go Go.Ev
theorem f13_in (dd : Nat) (hd : CSpecOk E 48 (s48 dd)) (l : List Gr.Cm) (hl : l.length ≤ 30) (ys : LLC) (nl : OBo) (tt : Bool) (kn : OBo) (kt : Bool) (m : Int) : (p13 dd).fd (Tr.ls 1 (s13_1 nl tt (Gr.repo l) kn kt ys m 0)) = some (.out [V.b ((l.all fun c => decide (c.1.length ≤ 5)) && decide (0 < m))] []) := by
  have hct : (ctOf [(48, s48 dd)]).ok E := ctOf_cons hd ctOf_nil
  refine fd_post (p := p13 dd) hct (by kernel_rfl) rfl (list_post (p := p13 dd) hct (b := b13_1) l.length (fun k (_ : Unit) => s13_1 nl tt (Gr.repo l) kn kt ys m k) (fun k _ => ((l.drop k).all fun c => decide (c.1.length ≤ 5)) = (l.all fun c => decide (c.1.length ≤ 5))) _ ?_ ?_ 0 (Nat.zero_le _) () rfl)
  · rintro k _ hk hi
    rw [List.drop_eq_getElem_cons hk, List.all_cons] at hi
    rw [t13_1]
    simp only [nd_ok, nd_lab, nd_rows, nd_kids, encL_length, isL_enc, decL_enc, wrap_hd, hd_pos, ld_br, ld_chk', ld_leaf, fd_br, fd_chk', fd_leaf, decide_true, decide_eq_true_eq, if_true, Int.toNat_natCast, Int.natCast_nonneg, Int.ofNat_lt, Int.ofNat_le, Bool.false_eq_true, if_false, bne_iff_ne, beq_iff_eq, ne_eq, not_true_eq_false, not_false_eq_true, Bool.not_eq_true', decide_eq_false_iff_not, reduceCtorEq, rows_length, pcs_length, er_ok, er_ok', ep_ok, ep_ok', dr_er, dp_ep, isRows_rows, isPcs_pcs, toRows_rows, toPcs_pcs, rows_take, rows_drop, pcs_take, pcs_drop, rows_append, pcs_append, ints_length, isInts_ints, toInts_ints, ei_i, ei_ok, mk_headD, ints_take, ints_drop, ints_append, ints_snoc, ints_snoc', List.take_length, Nat.zero_add, Nat.le_refl, er_a, er_b, er_k, er_n, er_s, er_v, ep_a, ep_b, ep_hk, ep_hn, ep_hs, ep_wk, ep_wn, ep_ws, hk, Gr.repo_length, Gr.repo_getD hk, Gr.ec_ok, Gr.ec_par, wrap_succ (show k < 9223372036854775807 by omega)]
    by_cases c : (5 : Int) < l[k].1.length
    · have : ¬ l[k].1.length ≤ 5 := by omega
      simp only [this, decide_false, Bool.false_and] at hi
      exact .inr ⟨x13_1x0 nl tt (Gr.repo l) kn kt ys, by simp, by rw [k13_1x0, fd_leaf, ← hi, Bool.false_and], by rw [if_pos c]⟩
    · have : l[k].1.length ≤ 5 := by omega
      simp only [this, decide_true, Bool.true_and] at hi
      exact .inl ⟨(), hi, by rw [if_neg c]⟩
  · rintro _ hi
    rw [List.drop_length, List.all_nil] at hi
    rw [t13_1]
    exact ⟨x13_1x1 nl tt (Gr.repo l) kn kt ys m l.length, by simp, by rw [k13_1x1, fd_leaf, ← hi, Bool.true_and], by simp only [nd_ok, nd_lab, nd_rows, nd_kids, encL_length, isL_enc, decL_enc, wrap_hd, hd_pos, ld_br, ld_chk', ld_leaf, fd_br, fd_chk', fd_leaf, decide_true, decide_eq_true_eq, if_true, Int.toNat_natCast, Int.natCast_nonneg, Int.ofNat_lt, Int.ofNat_le, Bool.false_eq_true, if_false, bne_iff_ne, beq_iff_eq, ne_eq, not_true_eq_false, not_false_eq_true, Bool.not_eq_true', decide_eq_false_iff_not, reduceCtorEq, rows_length, pcs_length, er_ok, er_ok', ep_ok, ep_ok', dr_er, dp_ep, isRows_rows, isPcs_pcs, toRows_rows, toPcs_pcs, rows_take, rows_drop, pcs_take, pcs_drop, rows_append, pcs_append, ints_length, isInts_ints, toInts_ints, ei_i, ei_ok, mk_headD, ints_take, ints_drop, ints_append, ints_snoc, ints_snoc', List.take_length, Nat.zero_add, Nat.le_refl, er_a, er_b, er_k, er_n, er_s, er_v, ep_a, ep_b, ep_hk, ep_hn, ep_hs, ep_wk, ep_wn, ep_ws, Gr.repo_length, Int.lt_irrefl]⟩
theorem f13 (l : List Gr.Cm) (ks : List Nd) (nl : OBo) (tt : Bool) (kn : OBo) (kt : Bool) (hL : lensL ks = true) : call E 13 [.agg [.c (.sl 2 nl tt (Gr.repo l)), .c (.sl 3 kn kt (encL ks))]] [] = some ([V.b (smallW l ks)], []) := by
  have hs := s48_ok (depL ks + 1)
  have hct : (ctOf [(48, s48 (depL ks + 1))]).ok E := ctOf_cons hs ctOf_nil
  refine call_of (E := E) (sh := sh) (ct := ctOf [(48, s48 (depL ks + 1))]) (na := 1) (m := 0) hct rfl rfl rfl rfl rfl rfl ?_
  show (p13 (depL ks + 1)).fd ((p13 (depL ks + 1)).ft _ _) = _
  rw [t13]
  simp only [fd_br, fd_leaf, Gr.repo_length, encL_length, decide_eq_true_eq]
  unfold smallW
  by_cases c1 : (30 : Int) < l.length
  · have : ¬ l.length ≤ 30 := by omega
    rw [if_pos c1]; simp [this]
  rw [if_neg c1]
  by_cases c2 : (30 : Int) < ks.length
  · have : ¬ ks.length ≤ 30 := by omega
    rw [if_pos c2]; simp [this]
  rw [if_neg c2]
  have d1 : l.length ≤ 30 := by omega
  have d2 : ks.length ≤ 30 := by omega
  simp only [d1, d2, decide_true, Bool.true_and]
  refine fd_post hct (by kernel_rfl) rfl (list_post (p := p13 (depL ks + 1)) hct (b := b13_0) ks.length (fun k (m : Int) => s13_0 nl tt (Gr.repo l) kn kt (encL ks) m k) (fun k m => leftL (ks.drop k) m 60 = leftL ks 600 60 ∧ 0 ≤ m ∧ m ≤ 600) _ ?_ ?_ 0 (Nat.zero_le _) 600 ⟨rfl, by omega, by omega⟩)
  · rintro k m hk ⟨hi, h1, h2⟩
    rw [List.drop_eq_getElem_cons hk, leftL_cons] at hi
    have hkid : depL ks[k].kids < depL ks + 1 := by have := depL_kid (List.getElem_mem hk); omega
    have hlt := lensL_mem hL (List.getElem_mem hk)
    have hle := leftT_le ks[k] m 60 h1
    rw [t13_0]
    simp only [nd_ok, nd_lab, nd_rows, nd_kids, encL_length, isL_enc, decL_enc, wrap_hd, hd_pos, ld_br, ld_chk', ld_leaf, fd_br, fd_chk', fd_leaf, decide_true, decide_eq_true_eq, if_true, Int.toNat_natCast, Int.natCast_nonneg, Int.ofNat_lt, Int.ofNat_le, Bool.false_eq_true, if_false, bne_iff_ne, beq_iff_eq, ne_eq, not_true_eq_false, not_false_eq_true, Bool.not_eq_true', decide_eq_false_iff_not, reduceCtorEq, rows_length, pcs_length, er_ok, er_ok', ep_ok, ep_ok', dr_er, dp_ep, isRows_rows, isPcs_pcs, toRows_rows, toPcs_pcs, rows_take, rows_drop, pcs_take, pcs_drop, rows_append, pcs_append, ints_length, isInts_ints, toInts_ints, ei_i, ei_ok, mk_headD, ints_take, ints_drop, ints_append, ints_snoc, ints_snoc', List.take_length, Nat.zero_add, Nat.le_refl, er_a, er_b, er_k, er_n, er_s, er_v, ep_a, ep_b, ep_hk, ep_hn, ep_hs, ep_wk, ep_wn, ep_ws, hk, encL_getD hk, nd_node, hkid, hlt, h1, show m ≤ 1000 by omega, wrap_succ (show k < 9223372036854775807 by omega)]
    by_cases c : 0 < m
    · rw [if_pos c] at hi
      exact .inl ⟨leftT ks[k] m 60, ⟨hi, hle.1, by omega⟩, by rw [if_pos c]⟩
    · rw [if_neg c] at hi
      exact .inr ⟨x13_0x0 nl tt (Gr.repo l) kn kt (encL ks) m k, by simp, by rw [k13_0x0, f13_in _ hs l d1, hi], by rw [if_neg c]⟩
  · rintro m ⟨hi, h1, h2⟩
    rw [List.drop_length, leftL] at hi
    rw [t13_0]
    exact ⟨x13_0x0 nl tt (Gr.repo l) kn kt (encL ks) m ks.length, by simp, by rw [k13_0x0, f13_in _ hs l d1, hi], by simp only [nd_ok, nd_lab, nd_rows, nd_kids, encL_length, isL_enc, decL_enc, wrap_hd, hd_pos, ld_br, ld_chk', ld_leaf, fd_br, fd_chk', fd_leaf, decide_true, decide_eq_true_eq, if_true, Int.toNat_natCast, Int.natCast_nonneg, Int.ofNat_lt, Int.ofNat_le, Bool.false_eq_true, if_false, bne_iff_ne, beq_iff_eq, ne_eq, not_true_eq_false, not_false_eq_true, Bool.not_eq_true', decide_eq_false_iff_not, reduceCtorEq, rows_length, pcs_length, er_ok, er_ok', ep_ok, ep_ok', dr_er, dp_ep, isRows_rows, isPcs_pcs, toRows_rows, toPcs_pcs, rows_take, rows_drop, pcs_take, pcs_drop, rows_append, pcs_append, ints_length, isInts_ints, toInts_ints, ei_i, ei_ok, mk_headD, ints_take, ints_drop, ints_append, ints_snoc, ints_snoc', List.take_length, Nat.zero_add, Nat.le_refl, er_a, er_b, er_k, er_n, er_s, er_v, ep_a, ep_b, ep_hk, ep_hn, ep_hs, ep_wk, ep_wn, ep_ws, Int.lt_irrefl]⟩
theorem s13_ok : CSpecOk E 13 s13 := by
  intro a h cs vals h' he hc
  unfold s13 at he
  split at he <;> simp only [Option.some.injEq, Prod.mk.injEq, reduceCtorEq] at he
  rename_i nl tt xs kn kt ys
  obtain ⟨rfl, rfl, rfl⟩ := he
  simp only [allT, Bool.and_true, Bool.and_eq_true, decide_eq_true_eq] at hc
  obtain ⟨h1, h2, h3⟩ := hc
  obtain ⟨l, rfl⟩ := repo_ex h1
  obtain ⟨ks, rfl⟩ := isL_ex h2
  rw [decL_enc] at h3
  rw [decL_enc, Gr.toRepo_repo]
  exact f13 l ks nl tt kn kt h3
theorem s15_ok : CSpecOk E 15 s15 := by
  intro a h cs vals h' he hc
  unfold s15 at he
  split at he <;> simp only [Option.some.injEq, Prod.mk.injEq, reduceCtorEq] at he
  obtain ⟨rfl, rfl, rfl⟩ := he
  exact f15
theorem any2 {l : List Gr.Cm} {n m : Int} (n1 : 1 ≤ n) (n2 : n ≤ l.length) (m1 : 1 ≤ m) (m2 : m ≤ l.length) : [n, m].any (Gr.noNum l.length) = false := by
  simp only [List.any_cons, List.any_nil, Bool.or_false, Bool.or_eq_false_iff, Gr.noNum, decide_eq_false_iff_not]
  exact ⟨⟨by omega, by omega⟩, ⟨by omega, by omega⟩⟩
theorem may0 {l : List Gr.Cm} {ts : List Nd} (h : worldOk l ts = true) {n m : Int} (n1 : 1 ≤ n) (n2 : n ≤ l.length) (m1 : 1 ≤ m) (m2 : m ≤ l.length) : mayW l ts [n, m] = 0 := by
  rw [mayW, if_pos h, any2 n1 n2 m1 m2]; rfl
theorem f3 (l : List Gr.Cm) (ks : List Nd) (n : Int) (hL : lensL ks = true) : call E 3 [.agg [.c (.sl 2 none false (Gr.repo l)), .c (.sl 3 none false (encL ks))], V.i n] [] = some ([V.b true], []) := by
  have hct : (ctOf [(13, s13), (14, s14), (15, s15), (16, s16), (17, s17n), (18, s18)]).ok E := ctOf_cons s13_ok (ctOf_cons s14_ok (ctOf_cons s15_ok (ctOf_cons s16_ok (ctOf_cons s17n_ok (ctOf_cons s18_ok ctOf_nil)))))
  refine call_of (E := E) (sh := sh) (ct := ctOf [(13, s13), (14, s14), (15, s15), (16, s16), (17, s17n), (18, s18)]) (na := 2) (m := 0) hct rfl rfl rfl rfl rfl rfl ?_
  rw [t3]
  simp only [fd_br, fd_chk', fd_leaf, if_true, Gr.isRepo_repo, Gr.toRepo_repo, isL_enc, decL_enc, hL, Bool.not_eq_true', encL_length]
  by_cases s1 : smallW l ks = false
  · rw [if_pos s1]
  rw [if_neg s1]
  rw [Bool.not_eq_false] at s1
  have s1' := s1
  simp only [smallW, Bool.and_eq_true, decide_eq_true_eq] at s1'
  obtain ⟨⟨⟨a1, a2⟩, a3⟩, a4⟩ := s1'
  have hs : Gr.smallB l = true := by
    rw [Gr.smallB, List.all_eq_true]
    intro c hc
    have := List.all_eq_true.1 a3 c hc
    simp only [decide_eq_true_eq] at this ⊢; omega
  have hf : fewT ks = true := by
    rw [fewT, List.all_eq_true]
    intro t ht
    have e1 := leftL_ent ks 600 60 (by omega) a4
    have e2 := entT_mem_len ht
    have e3 : (entL t.kids).length ≤ (entT t).length := by rw [entT_eq]; simp
    exact decide_eq_true (by omega)
  have hk : ks.length ≤ 4294967296 := by omega
  simp only [hs, hk, decide_true, if_true]
  by_cases s2 : isW l ks n = false
  · rw [if_pos s2]
  rw [if_neg s2]
  rw [Bool.not_eq_false] at s2
  simp only [isW, Bool.and_eq_true, decide_eq_true_eq] at s2
  obtain ⟨⟨hw, n1⟩, n2⟩ := s2
  have w := wd_of hw
  have hl := w.len
  obtain ⟨k1, k2⟩ := treeN_at (ts := ks) n1 (by omega)
  obtain ⟨g1, g2⟩ := pars_at n1 n2
  have hot := w.tree (n := n) n1 (by omega)
  have hob := w.baseok n1 n2
  have hown : pickP l ks n n = (ks[(n - 1).toNat], [], 0) := by
    rw [pickP, if_pos (may0 hw n1 n2 n1 n2), mergeP, if_pos ⟨hob, hot, hot⟩, if_pos (bad_same _ _), merge_same hot, k2]
  have hback : revP l ks n n = (baseN l ks n, [], 0) := by
    rw [revP, if_pos (may0 hw n1 n2 n1 n2), mergeP, if_pos ⟨hot, hot, hob⟩, if_pos (bad_base _ _), merge_base hob]
  have hlt : lensT ks[(n - 1).toNat] = true := okR_lens (w.ok _ (List.getElem_mem k1))
  have hlb : lensT (baseN l ks n) = true := okR_lens hob
  simp only [c3_1, c3_2, c3_3, c3_4, c3_5, c3_6, c3_7, c3_8, c3_9, Gr.toRepo_repo, Gr.isRepo_repo, hown, hback, hf, wrap_p n n1 (by omega), nd_ok, nd_lab, nd_rows, nd_kids, encL_length, isL_enc, decL_enc, wrap_hd, hd_pos, ld_br, ld_chk', ld_leaf, fd_br, fd_chk', fd_leaf, decide_true, decide_eq_true_eq, if_true, Int.toNat_natCast, Int.natCast_nonneg, Int.ofNat_lt, Int.ofNat_le, Bool.false_eq_true, if_false, bne_iff_ne, beq_iff_eq, ne_eq, not_true_eq_false, not_false_eq_true, Bool.not_eq_true', decide_eq_false_iff_not, reduceCtorEq, rows_length, pcs_length, er_ok, er_ok', ep_ok, ep_ok', dr_er, dp_ep, isRows_rows, isPcs_pcs, toRows_rows, toPcs_pcs, rows_take, rows_drop, pcs_take, pcs_drop, rows_append, pcs_append, ints_length, isInts_ints, toInts_ints, ei_i, ei_ok, mk_headD, ints_take, ints_drop, ints_append, ints_snoc, ints_snoc', List.take_length, Nat.zero_add, Nat.le_refl, er_a, er_b, er_k, er_n, er_s, er_v, ep_a, ep_b, ep_hk, ep_hn, ep_hs, ep_wk, ep_wn, ep_ws, k1, encL_getD k1, Nd.eta, hlt, hlb, sameT_refl, Gr.repo_length, g1, Gr.repo_getD g1, Gr.ec_ok, Gr.ec_par, hs, hk]
  have hb := (w.base n1 n2).2
  have hpar : parsN l n = (l[(n - 1).toNat]).1 := g2
  cases hp : (l[(n - 1).toNat]).1 with
  | nil =>
    have hz : baseN l ks n = nd0 := by unfold baseN; rw [hpar, hp]
    rw [hz]
    have e : sameT nd0 (Nd.node [] (toRows []) (decL [])) = true := sameT_refl nd0
    simp [e, strs]
  | cons p r =>
    rw [hp] at hpar
    obtain ⟨p1, p2⟩ := hb p r hpar
    obtain ⟨q1, q2⟩ := treeN_at (ts := ks) p1 p2
    have hbp : baseN l ks n = ks[(p - 1).toNat] := by unfold baseN; rw [hpar]; exact q2
    have hon : pickP l ks n p = (ks[(n - 1).toNat], [], 0) := by
      have hop := w.tree (n := p) p1 p2
      have hb2 : baseN l ks n = treeN ks p := by unfold baseN; rw [hpar]
      rw [pickP, if_pos (may0 hw n1 n2 p1 (by omega)), hb2, mergeP, if_pos ⟨hop, hop, hot⟩, if_pos (bad_base _ _), merge_base hot, k2]
    have e0 : (ints (p :: r)).getD (Int.toNat 0) [] = ei p := rfl
    have e2 : Int.toNat 0 < (p :: r).length := Nat.succ_pos _
    have e3 : ¬ (((p :: r).length : Nat) : Int) = 0 := by rw [List.length_cons]; omega
    have hlp : lensT ks[(p - 1).toNat] = true := okR_lens (w.ok _ (List.getElem_mem q1))
    have hps : ¬ p < 1 := by omega
    have hpl : ¬ ((ks.length : Int) < p) := by omega
    simp only [nd_ok, nd_lab, nd_rows, nd_kids, encL_length, isL_enc, decL_enc, wrap_hd, hd_pos, ld_br, ld_chk', ld_leaf, fd_br, fd_chk', fd_leaf, decide_true, decide_eq_true_eq, if_true, Int.toNat_natCast, Int.natCast_nonneg, Int.ofNat_lt, Int.ofNat_le, Bool.false_eq_true, if_false, bne_iff_ne, beq_iff_eq, ne_eq, not_true_eq_false, not_false_eq_true, Bool.not_eq_true', decide_eq_false_iff_not, reduceCtorEq, rows_length, pcs_length, er_ok, er_ok', ep_ok, ep_ok', dr_er, dp_ep, isRows_rows, isPcs_pcs, toRows_rows, toPcs_pcs, rows_take, rows_drop, pcs_take, pcs_drop, rows_append, pcs_append, ints_length, isInts_ints, toInts_ints, ei_i, ei_ok, mk_headD, ints_take, ints_drop, ints_append, ints_snoc, ints_snoc', List.take_length, Nat.zero_add, Nat.le_refl, er_a, er_b, er_k, er_n, er_s, er_v, ep_a, ep_b, ep_hk, ep_hn, ep_hs, ep_wk, ep_wn, ep_ws, e0, e2, e3, hps, hpl, hon, hbp, wrap_p p p1 (by omega), q1, encL_getD q1, Nd.eta, hlt, hlp, sameT_refl]
    simp [strs]
end Go.Proofs.YtgaabjmbnomimaaDoor
namespace Go.Proofs.YtgaabjmbnomimaaDoor
open Go Go.Ev
set_option maxRecDepth 100000
theorem rd39 {n : Nat} {xs : List C} (h : Rd Tryd.prog n 39 xs) : ∃ c : Gr.Cm, xs = Gr.ec c := by
  cases n with
  | zero => exact h.elim
  | succ n =>
    rw [Rd, Tryd.underlying39] at h
    obtain ⟨parts, hl, rfl, hp⟩ := h
    match parts, hl with
    | [p, q], _ =>
      obtain ⟨l, rfl, _⟩ := rdInts (hp 0 _ p rfl rfl)
      obtain ⟨v, rfl⟩ := rdI Tryd.underlying3 (hp 1 _ q rfl rfl)
      exact ⟨(l, v), rfl⟩
structure Lw where
  l : List Gr.Cm
  ts : List Nd
  ok : lensL ts = true
def ewW (w : Lw) : List C := [.sl 2 none false (Gr.repo w.l), .sl 3 none false (encL w.ts)]
@[reducible] def VW (w : Lw) : V := .agg [.c (.sl 2 none false (Gr.repo w.l)), .c (.sl 3 none false (encL w.ts))]
theorem rd25 {n : Nat} {xs : List C} (h : Rd Tryd.prog n 25 xs) : ∃ w : Lw, xs = ewW w := by
  cases n with
  | zero => exact h.elim
  | succ n =>
    rw [Rd, Tryd.underlying25] at h
    obtain ⟨parts, hl, rfl, hp⟩ := h
    match parts, hl with
    | [p, q], _ =>
      obtain ⟨l, rfl, _⟩ := rdL (z := 2) Tryd.underlying22 (by kernel_rfl) Gr.ec rd39 (hp 0 _ p rfl rfl)
      obtain ⟨ts, rfl, h1, _⟩ := (rdT n q).2 (hp 1 _ q rfl rfl)
      exact ⟨⟨l, ts, h1⟩, rfl⟩
theorem ar25 {v : V} {vl : List V} {ts : List TypeId} (h : Args Tryd.prog (25 :: ts) (v :: vl)) : (∃ w : Lw, v = VW w) ∧ Args Tryd.prog ts vl := arA ewW (by kernel_rfl) rd25 h
theorem l3 (w : Lw) (n : Int) : call E 3 [VW w, V.i n] [] = some ([V.b true], []) := f3 w.l w.ts n w.ok
end Go.Proofs.YtgaabjmbnomimaaDoor
