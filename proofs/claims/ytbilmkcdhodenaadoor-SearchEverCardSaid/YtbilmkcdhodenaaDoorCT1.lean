/-
  Chapter 12 (graph): the trees of graph's check, written by a program: each is what the kernel computes.
-/
import Derived.Test.YtbilmkcdhodenaaDoorRD
import Derived.Test.YtbilmkcdhodenaaDoorAE
set_option linter.all false
set_option linter.unusedSimpArgs false
set_option linter.unusedVariables false
section
namespace Go.Proofs.YtbilmkcdhodenaaDoor.Gr
open Go Go.Ev
noncomputable abbrev p180 : Par := par E sh (ctOf []) 180 2 1
noncomputable abbrev p181 : Par := par E sh (ctOf []) 181 3 2
noncomputable abbrev p109 : Par := par E sh (ctOf []) 109 2 1
theorem t180 (n : Int) (nl : Option Bool) (t : Bool) (xs : List (List C)) : p180.ft [V.i n, V.ptr 0 0 0 0] [O.box [V.c (C.sl 2 nl t xs)]] = Tr.br (decide (n < 1)) (Tr.leaf (R.out [V.c (C.bool true)] [O.box [V.c (C.sl 2 nl t xs)]])) (Tr.leaf (R.out [V.c (C.bool (decide ((↑xs.length : Int) < n)))] [O.box [V.c (C.sl 2 nl t xs)]])) := by kernel_rfl
theorem t181 (n : Int) (nl : Option Bool) (t : Bool) (xs : List (List C)) (c : C) (st : Int) : p181.ft [V.i n, V.ptr 0 0 0 0, V.ptr 1 0 0 0] [O.box [V.c (C.sl 2 nl t xs)], O.box [V.c c, V.i st]] = Tr.chk (decide (0 ≤ IntKind.i64.wrap (n - 1))) (Tr.chk true (Tr.chk (decide ((IntKind.i64.wrap (n - 1)).toNat < xs.length)) (Tr.chk (shOk [Sk.sl 1, Sk.int IntKind.i64] (xs.getD (IntKind.i64.wrap (n - 1)).toNat [])) (Tr.leaf (R.out [V.c (C.bool (decide (st ≤ ((xs.getD (IntKind.i64.wrap (n - 1)).toNat []).tail.headD C.pnil).i)))] [O.box [V.c (C.sl 2 nl t xs)], O.box [V.c c, V.c (C.int IntKind.i64 st)]]))))) := by kernel_rfl
theorem t109 (n : Int) (nl : Option Bool) (t : Bool) (xs : List (List C)) : p109.ft [V.i n, V.ptr 0 0 0 0] [O.box [V.c (C.sl 2 nl t xs)]] = Tr.br (decide (n < 1)) (Tr.leaf (R.out [V.c (C.bool true)] [O.box [V.c (C.sl 2 nl t xs)]])) (Tr.leaf (R.out [V.c (C.bool (decide ((↑xs.length : Int) < n)))] [O.box [V.c (C.sl 2 nl t xs)]])) := by kernel_rfl
noncomputable abbrev p51a : Par := par E sh (ctOf [(180, s180)]) 145 2 1
noncomputable abbrev p51c : Par := par E sh (ctOf [(109, s109)]) 145 2 1
noncomputable abbrev p51b : Par := par E sh (ctOf [(181, s181)]) 145 2 2
noncomputable abbrev b145 : Code := loopAt (codeOf E 145) 0
theorem t51a (nl : Option Bool) (t : Bool) (xs : List (List C)) (nl2 : Option Bool) (t2 : Bool) (ys : List (List C)) : p51a.ft [V.c (C.sl 1 nl t xs), V.fn 180 [V.ptr 0 0 0 0]] [O.box [V.c (C.sl 2 nl2 t2 ys)]] = Tr.lp 0 [(0, V.c (C.sl 1 nl t xs)), (1, V.fn 180 [V.ptr 0 0 0 0]), (7, V.c (C.int IntKind.i64 (↑xs.length : Int))), (8, V.c (C.int IntKind.i64 0))] [O.box [V.c (C.sl 2 nl2 t2 ys)]] := by kernel_rfl
theorem t51a_0 (nl : Option Bool) (t : Bool) (xs : List (List C)) (m : Int) (i : Int) (nl2 : Option Bool) (t2 : Bool) (ys : List (List C)) : p51a.lt b145 [(0, V.c (C.sl 1 nl t xs)), (1, V.fn 180 [V.ptr 0 0 0 0]), (7, V.i m), (8, V.i i)] [O.box [V.c (C.sl 2 nl2 t2 ys)]] = Tr.br (decide (i < m)) (Tr.chk (decide (0 ≤ i)) (Tr.chk true (Tr.chk (decide (i.toNat < xs.length)) (Tr.chk (shOk [Sk.int IntKind.i64] (xs.getD i.toNat [])) (Tr.br (noNum ys.length ((xs.getD i.toNat []).headD C.pnil).i) (Tr.leaf (R.st Ex.ret [(4, V.c (C.int IntKind.i64 i))] [O.box [V.c (C.sl 2 nl2 t2 ys)]])) (Tr.leaf (R.st Ex.nrm [(0, V.c (C.sl 1 nl t xs)), (1, V.fn 180 [V.ptr 0 0 0 0]), (7, V.c (C.int IntKind.i64 m)), (8, V.c (C.int IntKind.i64 (IntKind.i64.wrap (i + 1))))] [O.box [V.c (C.sl 2 nl2 t2 ys)]]))))))) (Tr.leaf (R.st (Ex.exit 0) [(0, V.c (C.sl 1 nl t xs)), (1, V.fn 180 [V.ptr 0 0 0 0]), (7, V.c (C.int IntKind.i64 m)), (8, V.c (C.int IntKind.i64 i)), (9, V.c (C.bool false))] [O.box [V.c (C.sl 2 nl2 t2 ys)]])) := by kernel_rfl
theorem t51a_0x0 (i : Int) (nl2 : Option Bool) (t2 : Bool) (ys : List (List C)) : p51a.fk 0 Ex.ret [(4, V.c (C.int IntKind.i64 i))] [O.box [V.c (C.sl 2 nl2 t2 ys)]] = Tr.leaf (R.out [V.c (C.int IntKind.i64 i)] [O.box [V.c (C.sl 2 nl2 t2 ys)]]) := by kernel_rfl
theorem t51a_0x1 (nl : Option Bool) (t : Bool) (xs : List (List C)) (m : Int) (i : Int) (nl2 : Option Bool) (t2 : Bool) (ys : List (List C)) : p51a.fk 0 (Ex.exit 0) [(0, V.c (C.sl 1 nl t xs)), (1, V.fn 180 [V.ptr 0 0 0 0]), (7, V.c (C.int IntKind.i64 m)), (8, V.c (C.int IntKind.i64 i)), (9, V.c (C.bool false))] [O.box [V.c (C.sl 2 nl2 t2 ys)]] = Tr.leaf (R.out [V.c (C.int IntKind.i64 (-1))] [O.box [V.c (C.sl 2 nl2 t2 ys)]]) := by kernel_rfl
theorem t51c (nl : Option Bool) (t : Bool) (xs : List (List C)) (nl2 : Option Bool) (t2 : Bool) (ys : List (List C)) : p51c.ft [V.c (C.sl 1 nl t xs), V.fn 109 [V.ptr 0 0 0 0]] [O.box [V.c (C.sl 2 nl2 t2 ys)]] = Tr.lp 0 [(0, V.c (C.sl 1 nl t xs)), (1, V.fn 109 [V.ptr 0 0 0 0]), (7, V.c (C.int IntKind.i64 (↑xs.length : Int))), (8, V.c (C.int IntKind.i64 0))] [O.box [V.c (C.sl 2 nl2 t2 ys)]] := by kernel_rfl
theorem t51c_0 (nl : Option Bool) (t : Bool) (xs : List (List C)) (m : Int) (i : Int) (nl2 : Option Bool) (t2 : Bool) (ys : List (List C)) : p51c.lt b145 [(0, V.c (C.sl 1 nl t xs)), (1, V.fn 109 [V.ptr 0 0 0 0]), (7, V.i m), (8, V.i i)] [O.box [V.c (C.sl 2 nl2 t2 ys)]] = Tr.br (decide (i < m)) (Tr.chk (decide (0 ≤ i)) (Tr.chk true (Tr.chk (decide (i.toNat < xs.length)) (Tr.chk (shOk [Sk.int IntKind.i64] (xs.getD i.toNat [])) (Tr.br (noNum ys.length ((xs.getD i.toNat []).headD C.pnil).i) (Tr.leaf (R.st Ex.ret [(4, V.c (C.int IntKind.i64 i))] [O.box [V.c (C.sl 2 nl2 t2 ys)]])) (Tr.leaf (R.st Ex.nrm [(0, V.c (C.sl 1 nl t xs)), (1, V.fn 109 [V.ptr 0 0 0 0]), (7, V.c (C.int IntKind.i64 m)), (8, V.c (C.int IntKind.i64 (IntKind.i64.wrap (i + 1))))] [O.box [V.c (C.sl 2 nl2 t2 ys)]]))))))) (Tr.leaf (R.st (Ex.exit 0) [(0, V.c (C.sl 1 nl t xs)), (1, V.fn 109 [V.ptr 0 0 0 0]), (7, V.c (C.int IntKind.i64 m)), (8, V.c (C.int IntKind.i64 i)), (9, V.c (C.bool false))] [O.box [V.c (C.sl 2 nl2 t2 ys)]])) := by kernel_rfl
theorem t51c_0x0 (i : Int) (nl2 : Option Bool) (t2 : Bool) (ys : List (List C)) : p51c.fk 0 Ex.ret [(4, V.c (C.int IntKind.i64 i))] [O.box [V.c (C.sl 2 nl2 t2 ys)]] = Tr.leaf (R.out [V.c (C.int IntKind.i64 i)] [O.box [V.c (C.sl 2 nl2 t2 ys)]]) := by kernel_rfl
theorem t51c_0x1 (nl : Option Bool) (t : Bool) (xs : List (List C)) (m : Int) (i : Int) (nl2 : Option Bool) (t2 : Bool) (ys : List (List C)) : p51c.fk 0 (Ex.exit 0) [(0, V.c (C.sl 1 nl t xs)), (1, V.fn 109 [V.ptr 0 0 0 0]), (7, V.c (C.int IntKind.i64 m)), (8, V.c (C.int IntKind.i64 i)), (9, V.c (C.bool false))] [O.box [V.c (C.sl 2 nl2 t2 ys)]] = Tr.leaf (R.out [V.c (C.int IntKind.i64 (-1))] [O.box [V.c (C.sl 2 nl2 t2 ys)]]) := by kernel_rfl
theorem t51b (nl : Option Bool) (t : Bool) (xs : List (List C)) (nl2 : Option Bool) (t2 : Bool) (ys : List (List C)) (c : C) (st : Int) : p51b.ft [V.c (C.sl 1 nl t xs), V.fn 181 [V.ptr 0 0 0 0, V.ptr 1 0 0 0]] [O.box [V.c (C.sl 2 nl2 t2 ys)], O.box [V.c c, V.i st]] = Tr.lp 0 [(0, V.c (C.sl 1 nl t xs)), (1, V.fn 181 [V.ptr 0 0 0 0, V.ptr 1 0 0 0]), (7, V.c (C.int IntKind.i64 (↑xs.length : Int))), (8, V.c (C.int IntKind.i64 0))] [O.box [V.c (C.sl 2 nl2 t2 ys)], O.box [V.c c, V.c (C.int IntKind.i64 st)]] := by kernel_rfl
theorem t51b_0 (nl : Option Bool) (t : Bool) (xs : List (List C)) (m : Int) (i : Int) (nl2 : Option Bool) (t2 : Bool) (ys : List (List C)) (c : C) (st : Int) : p51b.lt b145 [(0, V.c (C.sl 1 nl t xs)), (1, V.fn 181 [V.ptr 0 0 0 0, V.ptr 1 0 0 0]), (7, V.i m), (8, V.i i)] [O.box [V.c (C.sl 2 nl2 t2 ys)], O.box [V.c c, V.i st]] = Tr.br (decide (i < m)) (Tr.chk (decide (0 ≤ i)) (Tr.chk true (Tr.chk (decide (i.toNat < xs.length)) (Tr.chk (shOk [Sk.int IntKind.i64] (xs.getD i.toNat [])) (Tr.chk (isRepo ys) (Tr.chk (!noNum ys.length ((xs.getD i.toNat []).headD C.pnil).i) (Tr.chk (decide (ys.length ≤ 500)) (Tr.br (lateFor (toRepo ys) st ((xs.getD i.toNat []).headD C.pnil).i) (Tr.leaf (R.st Ex.ret [(4, V.c (C.int IntKind.i64 i))] [O.box [V.c (C.sl 2 nl2 t2 ys)], O.box [V.c c, V.c (C.int IntKind.i64 st)]])) (Tr.leaf (R.st Ex.nrm [(0, V.c (C.sl 1 nl t xs)), (1, V.fn 181 [V.ptr 0 0 0 0, V.ptr 1 0 0 0]), (7, V.c (C.int IntKind.i64 m)), (8, V.c (C.int IntKind.i64 (IntKind.i64.wrap (i + 1))))] [O.box [V.c (C.sl 2 nl2 t2 ys)], O.box [V.c c, V.c (C.int IntKind.i64 st)]])))))))))) (Tr.leaf (R.st (Ex.exit 0) [(0, V.c (C.sl 1 nl t xs)), (1, V.fn 181 [V.ptr 0 0 0 0, V.ptr 1 0 0 0]), (7, V.c (C.int IntKind.i64 m)), (8, V.c (C.int IntKind.i64 i)), (9, V.c (C.bool false))] [O.box [V.c (C.sl 2 nl2 t2 ys)], O.box [V.c c, V.c (C.int IntKind.i64 st)]])) := by kernel_rfl
theorem t51b_0x0 (i : Int) (nl2 : Option Bool) (t2 : Bool) (ys : List (List C)) (c : C) (st : Int) : p51b.fk 0 Ex.ret [(4, V.c (C.int IntKind.i64 i))] [O.box [V.c (C.sl 2 nl2 t2 ys)], O.box [V.c c, V.c (C.int IntKind.i64 st)]] = Tr.leaf (R.out [V.c (C.int IntKind.i64 i)] [O.box [V.c (C.sl 2 nl2 t2 ys)], O.box [V.c c, V.c (C.int IntKind.i64 st)]]) := by kernel_rfl
theorem t51b_0x1 (nl : Option Bool) (t : Bool) (xs : List (List C)) (m : Int) (i : Int) (nl2 : Option Bool) (t2 : Bool) (ys : List (List C)) (c : C) (st : Int) : p51b.fk 0 (Ex.exit 0) [(0, V.c (C.sl 1 nl t xs)), (1, V.fn 181 [V.ptr 0 0 0 0, V.ptr 1 0 0 0]), (7, V.c (C.int IntKind.i64 m)), (8, V.c (C.int IntKind.i64 i)), (9, V.c (C.bool false))] [O.box [V.c (C.sl 2 nl2 t2 ys)], O.box [V.c c, V.c (C.int IntKind.i64 st)]] = Tr.leaf (R.out [V.c (C.int IntKind.i64 (-1))] [O.box [V.c (C.sl 2 nl2 t2 ys)], O.box [V.c c, V.c (C.int IntKind.i64 st)]]) := by kernel_rfl
end Go.Proofs.YtbilmkcdhodenaaDoor.Gr

end

/-
  Chapter 12 (graph): what graph's check computes.
-/
section
namespace Go.Proofs.YtbilmkcdhodenaaDoor.Gr
open Go Go.Ev

theorem noNum_if (len : Nat) (n : Int) : (if n < 1 then true else decide ((len : Int) < n)) = noNum len n := by
  unfold noNum
  by_cases h : n < 1 <;> simp [h]

theorem f180 (n : Int) (nl : Option Bool) (t : Bool) (xs : List (List C)) : call E 180 [V.i n, .ptr 0 0 0 0] [.box [.c (.sl 2 nl t xs)]] = some ([V.b (noNum xs.length n)], [.box [.c (.sl 2 nl t xs)]]) := by
  refine call_of (E := E) (sh := sh) (ct := ctOf []) (na := 2) (m := 1) ctOf_nil rfl rfl rfl rfl rfl rfl ?_
  rw [t180, fd_br]
  simp only [fd_leaf, decide_eq_true_eq, ← noNum_if]
  split <;> rfl
theorem f109 (n : Int) (nl : Option Bool) (t : Bool) (xs : List (List C)) : call E 109 [V.i n, .ptr 0 0 0 0] [.box [.c (.sl 2 nl t xs)]] = some ([V.b (noNum xs.length n)], [.box [.c (.sl 2 nl t xs)]]) := by
  refine call_of (E := E) (sh := sh) (ct := ctOf []) (na := 2) (m := 1) ctOf_nil rfl rfl rfl rfl rfl rfl ?_
  rw [t109, fd_br]
  simp only [fd_leaf, decide_eq_true_eq, ← noNum_if]
  split <;> rfl
theorem f181 (n : Int) (nl : Option Bool) (t : Bool) (l : List Cm) (c : C) (st : Int) (hl : l.length ≤ 500) (hn : noNum l.length n = false) :
    call E 181 [V.i n, .ptr 0 0 0 0, .ptr 1 0 0 0] [.box [.c (.sl 2 nl t (repo l))], .box [.c c, V.i st]] = some ([V.b (lateFor l st n)], [.box [.c (.sl 2 nl t (repo l))], .box [.c c, V.i st]]) := by
  refine call_of (E := E) (sh := sh) (ct := ctOf []) (na := 3) (m := 2) ctOf_nil rfl rfl rfl rfl rfl rfl ?_
  simp only [noNum, Bool.or_eq_false_iff, decide_eq_false_iff_not] at hn
  have hw := wrap_same (n := n - 1) (by omega) (by omega)
  have hi : (n - 1).toNat < l.length := by omega
  rw [t181, hw, fd_chk (by simp; omega), fd_chk rfl, fd_chk (by simpa using hi), repo_getD hi, fd_chk (ec_ok _), fd_leaf]
  have hg : l.getD (n - 1).toNat ([], 0) = l[(n - 1).toNat] := by rw [List.getD_eq_getElem?_getD, List.getElem?_eq_getElem hi]; rfl
  rw [ec_stamp, lateFor, hg]

theorem s180_ok : CSpecOk E 180 s180 := by
  intro a h cs vals h' he hc
  unfold s180 at he
  split at he <;> simp only [Option.some.injEq, Prod.mk.injEq, reduceCtorEq] at he
  obtain ⟨rfl, rfl, rfl⟩ := he
  exact f180 _ _ _ _
theorem s109_ok : CSpecOk E 109 s109 := by
  intro a h cs vals h' he hc
  unfold s109 s180 at he
  split at he <;> simp only [Option.some.injEq, Prod.mk.injEq, reduceCtorEq] at he
  obtain ⟨rfl, rfl, rfl⟩ := he
  exact f109 _ _ _ _
theorem s181_ok : CSpecOk E 181 s181 := by
  intro a h cs vals h' he hc
  unfold s181 at he
  split at he <;> simp only [Option.some.injEq, Prod.mk.injEq, reduceCtorEq] at he
  rename_i n nl t xs c st
  obtain ⟨rfl, rfl, rfl⟩ := he
  simp only [allT, Bool.and_eq_true, Bool.not_eq_true', decide_eq_true_eq, and_true] at hc
  obtain ⟨h1, h2, h3⟩ := hc
  have e := repo_of h1
  have hlen : xs.length = (toRepo xs).length := by simp [toRepo]
  rw [hlen] at h2 h3
  have := f181 n nl t (toRepo xs) c st h3 h2
  rw [← e] at this
  exact this

/-- Where the first one of these is, or -1. -/
def firstAt (Q : Int → Bool) (l : List Int) : Int := match l.findIdx? Q with
  | some i => i
  | none => -1

theorem findIdx_drop {Q : Int → Bool} {l : List Int} {k : Nat} (h : ∀ j (hj : j < l.length), j < k → Q l[j] = false) (hk : k < l.length) (hq : Q l[k] = true) : l.findIdx? Q = some k := by
  rw [List.findIdx?_eq_some_iff_getElem]
  exact ⟨hk, hq, fun j hj => by simpa using h j (by omega) hj⟩

theorem f51a (l : List Int) (nl : Option Bool) (t : Bool) (nl2 : Option Bool) (t2 : Bool) (ys : List (List C)) (hl : l.length ≤ 4294967296) :
    call E 145 [.c (.sl 1 nl t (ints l)), .fn 180 [.ptr 0 0 0 0]] [.box [.c (.sl 2 nl2 t2 ys)]] = some ([V.i (firstAt (noNum ys.length) l)], [.box [.c (.sl 2 nl2 t2 ys)]]) := by
  have hct : CT.ok E (ctOf [(180, s180)]) := ctOf_cons s180_ok ctOf_nil
  refine call_of (E := E) (sh := sh) (ct := ctOf [(180, s180)]) (na := 2) (m := 1) hct rfl rfl rfl rfl rfl rfl ?_
  rw [t51a]
  have hloop := loop_of (p := p51a) hct (b := b145) (fun k : Nat => ([(0, .c (.sl 1 nl t (ints l))), (1, .fn 180 [.ptr 0 0 0 0]), (7, V.i l.length), (8, V.i k)], [.box [.c (.sl 2 nl2 t2 ys)]]))
    (fun k => k ≤ l.length ∧ ∀ j (hj : j < l.length), j < k → noNum ys.length l[j] = false) (fun k => l.length - k)
    (fun _ => match l.findIdx? (noNum ys.length) with
      | some i => (.ret, [(4, V.i i)], [.box [.c (.sl 2 nl2 t2 ys)]])
      | none => (.exit 0, [(0, .c (.sl 1 nl t (ints l))), (1, .fn 180 [.ptr 0 0 0 0]), (7, V.i l.length), (8, V.i l.length), (9, V.b false)], [.box [.c (.sl 2 nl2 t2 ys)]]))
    (by
      rintro k ⟨hk, hq⟩
      simp only [t51a_0]
      rcases Nat.lt_or_ge k l.length with h | h
      · have hget : l.getD k 0 = l[k] := by rw [List.getD_eq_getElem?_getD, List.getElem?_eq_getElem h]; rfl
        have hw := wrap_same (n := (k : Int) + 1) (by omega) (by omega)
        simp only [ld_br, ld_chk, ints_length, Int.toNat_natCast, ints_getD h, ei_ok, ei_i, hget, hw, ld_leaf, h, Int.ofNat_lt, decide_true, Int.natCast_nonneg, if_true]
        cases hx : noNum ys.length l[k] with
        | true =>
          rw [findIdx_drop hq h hx]
          exact .inr ⟨by simp, by simp⟩
        | false =>
          refine .inl ⟨k + 1, ⟨by omega, fun j hj hjk => ?_⟩, by omega, trivial, by simp⟩
          rcases Nat.lt_or_ge j k with h' | h'
          · exact hq j hj h'
          · have : j = k := by omega
            subst this; exact hx
      · have : k = l.length := by omega
        subst this
        have : l.findIdx? (noNum ys.length) = none := by
          rw [List.findIdx?_eq_none_iff]
          intro x hx
          obtain ⟨j, hj, rfl⟩ := List.getElem_of_mem hx
          exact hq j hj hj
        rw [this]
        refine .inr ⟨by simp, ?_⟩
        simp [ld_br, ld_leaf]) 0 ⟨Nat.zero_le _, fun j hj h => by omega⟩
  rw [ints_length]
  unfold firstAt
  cases h : l.findIdx? (noNum ys.length) with
  | none =>
    simp only [h] at hloop
    exact fd_lp (p := p51a) hct (by kernel_rfl) hloop (by rw [t51a_0x1]; rfl)
  | some i =>
    simp only [h] at hloop
    exact fd_lp (p := p51a) hct (by kernel_rfl) hloop (by rw [t51a_0x0]; rfl)
theorem f51c (l : List Int) (nl : Option Bool) (t : Bool) (nl2 : Option Bool) (t2 : Bool) (ys : List (List C)) (hl : l.length ≤ 4294967296) :
    call E 145 [.c (.sl 1 nl t (ints l)), .fn 109 [.ptr 0 0 0 0]] [.box [.c (.sl 2 nl2 t2 ys)]] = some ([V.i (firstAt (noNum ys.length) l)], [.box [.c (.sl 2 nl2 t2 ys)]]) := by
  have hct : CT.ok E (ctOf [(109, s109)]) := ctOf_cons s109_ok ctOf_nil
  refine call_of (E := E) (sh := sh) (ct := ctOf [(109, s109)]) (na := 2) (m := 1) hct rfl rfl rfl rfl rfl rfl ?_
  rw [t51c]
  have hloop := loop_of (p := p51c) hct (b := b145) (fun k : Nat => ([(0, .c (.sl 1 nl t (ints l))), (1, .fn 109 [.ptr 0 0 0 0]), (7, V.i l.length), (8, V.i k)], [.box [.c (.sl 2 nl2 t2 ys)]]))
    (fun k => k ≤ l.length ∧ ∀ j (hj : j < l.length), j < k → noNum ys.length l[j] = false) (fun k => l.length - k)
    (fun _ => match l.findIdx? (noNum ys.length) with
      | some i => (.ret, [(4, V.i i)], [.box [.c (.sl 2 nl2 t2 ys)]])
      | none => (.exit 0, [(0, .c (.sl 1 nl t (ints l))), (1, .fn 109 [.ptr 0 0 0 0]), (7, V.i l.length), (8, V.i l.length), (9, V.b false)], [.box [.c (.sl 2 nl2 t2 ys)]]))
    (by
      rintro k ⟨hk, hq⟩
      simp only [t51c_0]
      rcases Nat.lt_or_ge k l.length with h | h
      · have hget : l.getD k 0 = l[k] := by rw [List.getD_eq_getElem?_getD, List.getElem?_eq_getElem h]; rfl
        have hw := wrap_same (n := (k : Int) + 1) (by omega) (by omega)
        simp only [ld_br, ld_chk, ints_length, Int.toNat_natCast, ints_getD h, ei_ok, ei_i, hget, hw, ld_leaf, h, Int.ofNat_lt, decide_true, Int.natCast_nonneg, if_true]
        cases hx : noNum ys.length l[k] with
        | true =>
          rw [findIdx_drop hq h hx]
          exact .inr ⟨by simp, by simp⟩
        | false =>
          refine .inl ⟨k + 1, ⟨by omega, fun j hj hjk => ?_⟩, by omega, trivial, by simp⟩
          rcases Nat.lt_or_ge j k with h' | h'
          · exact hq j hj h'
          · have : j = k := by omega
            subst this; exact hx
      · have : k = l.length := by omega
        subst this
        have : l.findIdx? (noNum ys.length) = none := by
          rw [List.findIdx?_eq_none_iff]
          intro x hx
          obtain ⟨j, hj, rfl⟩ := List.getElem_of_mem hx
          exact hq j hj hj
        rw [this]
        refine .inr ⟨by simp, ?_⟩
        simp [ld_br, ld_leaf]) 0 ⟨Nat.zero_le _, fun j hj h => by omega⟩
  rw [ints_length]
  unfold firstAt
  cases h : l.findIdx? (noNum ys.length) with
  | none =>
    simp only [h] at hloop
    exact fd_lp (p := p51c) hct (by kernel_rfl) hloop (by rw [t51c_0x1]; rfl)
  | some i =>
    simp only [h] at hloop
    exact fd_lp (p := p51c) hct (by kernel_rfl) hloop (by rw [t51c_0x0]; rfl)
theorem f51b (l : List Int) (nl : Option Bool) (t : Bool) (nl2 : Option Bool) (t2 : Bool) (r : List Cm) (c : C) (st : Int) (hr : r.length ≤ 500) (hn : ∀ n ∈ l, noNum r.length n = false) (hl : l.length ≤ 4294967296) :
    call E 145 [.c (.sl 1 nl t (ints l)), .fn 181 [.ptr 0 0 0 0, .ptr 1 0 0 0]] [.box [.c (.sl 2 nl2 t2 (repo r))], .box [.c c, V.i st]] = some ([V.i (firstAt (lateFor r st) l)], [.box [.c (.sl 2 nl2 t2 (repo r))], .box [.c c, V.i st]]) := by
  have hct : CT.ok E (ctOf [(181, s181)]) := ctOf_cons s181_ok ctOf_nil
  refine call_of (E := E) (sh := sh) (ct := ctOf [(181, s181)]) (na := 2) (m := 2) hct rfl rfl rfl rfl rfl rfl ?_
  rw [t51b]
  have hloop := loop_of (p := p51b) hct (b := b145) (fun k : Nat => ([(0, .c (.sl 1 nl t (ints l))), (1, .fn 181 [.ptr 0 0 0 0, .ptr 1 0 0 0]), (7, V.i l.length), (8, V.i k)], [.box [.c (.sl 2 nl2 t2 (repo r))], .box [.c c, V.i st]]))
    (fun k => k ≤ l.length ∧ ∀ j (hj : j < l.length), j < k → lateFor r st l[j] = false) (fun k => l.length - k)
    (fun _ => match l.findIdx? (lateFor r st) with
      | some i => (.ret, [(4, V.i i)], [.box [.c (.sl 2 nl2 t2 (repo r))], .box [.c c, V.i st]])
      | none => (.exit 0, [(0, .c (.sl 1 nl t (ints l))), (1, .fn 181 [.ptr 0 0 0 0, .ptr 1 0 0 0]), (7, V.i l.length), (8, V.i l.length), (9, V.b false)], [.box [.c (.sl 2 nl2 t2 (repo r))], .box [.c c, V.i st]]))
    (by
      rintro k ⟨hk, hq⟩
      simp only [t51b_0]
      rcases Nat.lt_or_ge k l.length with h | h
      · have hget : l.getD k 0 = l[k] := by rw [List.getD_eq_getElem?_getD, List.getElem?_eq_getElem h]; rfl
        have hw := wrap_same (n := (k : Int) + 1) (by omega) (by omega)
        simp only [ld_br, ld_chk, ints_length, Int.toNat_natCast, ints_getD h, ei_ok, ei_i, hget, hw, ld_leaf, h, isRepo_repo, toRepo_repo, repo_length, hn _ (List.getElem_mem h), hr, Bool.not_false, Int.ofNat_lt, decide_true, Int.natCast_nonneg, if_true]
        cases hx : lateFor r st l[k] with
        | true =>
          rw [findIdx_drop hq h hx]
          exact .inr ⟨by simp, by simp⟩
        | false =>
          refine .inl ⟨k + 1, ⟨by omega, fun j hj hjk => ?_⟩, by omega, trivial, by simp⟩
          rcases Nat.lt_or_ge j k with h' | h'
          · exact hq j hj h'
          · have : j = k := by omega
            subst this; exact hx
      · have : k = l.length := by omega
        subst this
        have : l.findIdx? (lateFor r st) = none := by
          rw [List.findIdx?_eq_none_iff]
          intro x hx
          obtain ⟨j, hj, rfl⟩ := List.getElem_of_mem hx
          exact hq j hj hj
        rw [this]
        refine .inr ⟨by simp, ?_⟩
        simp [ld_br, ld_leaf]) 0 ⟨Nat.zero_le _, fun j hj h => by omega⟩
  rw [ints_length]
  unfold firstAt
  cases h : l.findIdx? (lateFor r st) with
  | none =>
    simp only [h] at hloop
    exact fd_lp (p := p51b) hct (by kernel_rfl) hloop (by rw [t51b_0x1]; rfl)
  | some i =>
    simp only [h] at hloop
    exact fd_lp (p := p51b) hct (by kernel_rfl) hloop (by rw [t51b_0x0]; rfl)
end Go.Proofs.YtbilmkcdhodenaaDoor.Gr

end

/-
  Chapter 12 (graph): more trees of graph's check, written by a program.
-/
section
namespace Go.Proofs.YtbilmkcdhodenaaDoor.Gr
open Go Go.Ev
def s145 : CSpec := fun a h => match a, h with
  | [.c (.sl 1 nl t xs), .fn 180 [.ptr 0 0 0 0]], [.box [.c (.sl 2 nl2 t2 ys)]] => some ([isInts xs, decide (xs.length ≤ 4294967296)], [V.i (firstAt (noNum ys.length) (toInts xs))], [.box [.c (.sl 2 nl2 t2 ys)]])
  | [.c (.sl 1 nl t xs), .fn 109 [.ptr 0 0 0 0]], [.box [.c (.sl 2 nl2 t2 ys)]] => some ([isInts xs, decide (xs.length ≤ 4294967296)], [V.i (firstAt (noNum ys.length) (toInts xs))], [.box [.c (.sl 2 nl2 t2 ys)]])
  | [.c (.sl 1 nl t xs), .fn 181 [.ptr 0 0 0 0, .ptr 1 0 0 0]], [.box [.c (.sl 2 nl2 t2 ys)], .box [.c c, .c (.int .i64 st)]] =>
    some ([isInts xs, decide (xs.length ≤ 4294967296), isRepo ys, decide (ys.length ≤ 500), (toInts xs).all fun n => !noNum ys.length n], [V.i (firstAt (lateFor (toRepo ys) st) (toInts xs))], [.box [.c (.sl 2 nl2 t2 ys)], .box [.c c, .c (.int .i64 st)]])
  | _, _ => none
noncomputable abbrev p46a : Par := par E sh (ctOf [(145, s145)]) 108 2 1
noncomputable abbrev p46b : Par := par E sh (ctOf [(145, s145)]) 108 2 2
theorem t46a (nl : Option Bool) (t : Bool) (xs : List (List C)) (nl2 : Option Bool) (t2 : Bool) (ys : List (List C)) : p46a.ft [V.c (C.sl 1 nl t xs), V.fn 180 [V.ptr 0 0 0 0]] [O.box [V.c (C.sl 2 nl2 t2 ys)]] = Tr.chk (isInts xs) (Tr.chk (decide (xs.length ≤ 4294967296)) (Tr.leaf (R.out [V.c (C.bool (decide (0 ≤ firstAt (noNum ys.length) (toInts xs))))] [O.box [V.c (C.sl 2 nl2 t2 ys)]]))) := by kernel_rfl
theorem t46c (nl : Option Bool) (t : Bool) (xs : List (List C)) (nl2 : Option Bool) (t2 : Bool) (ys : List (List C)) : p46a.ft [V.c (C.sl 1 nl t xs), V.fn 109 [V.ptr 0 0 0 0]] [O.box [V.c (C.sl 2 nl2 t2 ys)]] = Tr.chk (isInts xs) (Tr.chk (decide (xs.length ≤ 4294967296)) (Tr.leaf (R.out [V.c (C.bool (decide (0 ≤ firstAt (noNum ys.length) (toInts xs))))] [O.box [V.c (C.sl 2 nl2 t2 ys)]]))) := by kernel_rfl
theorem t46b (nl : Option Bool) (t : Bool) (xs : List (List C)) (nl2 : Option Bool) (t2 : Bool) (ys : List (List C)) (c : C) (st : Int) : p46b.ft [V.c (C.sl 1 nl t xs), V.fn 181 [V.ptr 0 0 0 0, V.ptr 1 0 0 0]] [O.box [V.c (C.sl 2 nl2 t2 ys)], O.box [V.c c, V.i st]] = Tr.chk (isInts xs) (Tr.chk (decide (xs.length ≤ 4294967296)) (Tr.chk (isRepo ys) (Tr.chk (decide (ys.length ≤ 500)) (Tr.chk ((toInts xs).all fun (n : Int) => !noNum ys.length n) (Tr.leaf (R.out [V.c (C.bool (decide (0 ≤ firstAt (lateFor (toRepo ys) st) (toInts xs))))] [O.box [V.c (C.sl 2 nl2 t2 ys)], O.box [V.c c, V.c (C.int IntKind.i64 st)]])))))) := by kernel_rfl
end Go.Proofs.YtbilmkcdhodenaaDoor.Gr

end

/-
  Chapter 12 (graph): ContainsFunc, fault.
-/
section
namespace Go.Proofs.YtbilmkcdhodenaaDoor.Gr
open Go Go.Ev

theorem toRepo_length (xs : List (List C)) : (toRepo xs).length = xs.length := by simp [toRepo]

theorem s145_ok : CSpecOk E 145 s145 := by
  intro a h cs vals h' he hc
  unfold s145 at he
  split at he <;> simp only [Option.some.injEq, Prod.mk.injEq, reduceCtorEq] at he <;> obtain ⟨rfl, rfl, rfl⟩ := he <;> simp only [allT, Bool.and_eq_true, decide_eq_true_eq, and_true] at hc
  · rename_i nl t xs nl2 t2 ys
    have := f51a (toInts xs) nl t nl2 t2 ys (by rw [toInts_length]; exact hc.2)
    rwa [← ints_of hc.1] at this
  · rename_i nl t xs nl2 t2 ys
    have := f51c (toInts xs) nl t nl2 t2 ys (by rw [toInts_length]; exact hc.2)
    rwa [← ints_of hc.1] at this
  · rename_i nl t xs nl2 t2 ys c st
    obtain ⟨h1, h2, h3, h4, h5⟩ := hc
    have := f51b (toInts xs) nl t nl2 t2 (toRepo ys) c st (by rw [toRepo_length]; exact h4) (fun n hn => by
      rw [List.all_eq_true] at h5
      rw [toRepo_length]
      simpa using h5 n hn) (by rw [toInts_length]; exact h2)
    rwa [← ints_of h1, ← repo_of h3] at this

theorem firstAt_any (Q : Int → Bool) (l : List Int) : decide (0 ≤ firstAt Q l) = l.any Q := by
  unfold firstAt
  cases h : l.findIdx? Q with
  | none =>
    rw [List.findIdx?_eq_none_iff] at h
    rw [show l.any Q = false by rw [List.any_eq_false]; intro x hx; simp [h x hx]]
    simp
  | some i =>
    obtain ⟨hi, hq, _⟩ := List.findIdx?_eq_some_iff_getElem.1 h
    rw [show l.any Q = true by rw [List.any_eq_true]; exact ⟨_, List.getElem_mem hi, hq⟩]
    simp

theorem f46a (l : List Int) (nl : Option Bool) (t : Bool) (nl2 : Option Bool) (t2 : Bool) (ys : List (List C)) (hl : l.length ≤ 4294967296) :
    call E 108 [.c (.sl 1 nl t (ints l)), .fn 180 [.ptr 0 0 0 0]] [.box [.c (.sl 2 nl2 t2 ys)]] = some ([V.b (l.any (noNum ys.length))], [.box [.c (.sl 2 nl2 t2 ys)]]) := by
  refine call_of (E := E) (sh := sh) (ct := ctOf [(145, s145)]) (na := 2) (m := 1) (ctOf_cons s145_ok ctOf_nil) rfl rfl rfl rfl rfl rfl ?_
  rw [t46a, fd_chk (isInts_ints _), fd_chk (by simpa using hl), fd_leaf, toInts_ints, firstAt_any]
theorem f46c (l : List Int) (nl : Option Bool) (t : Bool) (nl2 : Option Bool) (t2 : Bool) (ys : List (List C)) (hl : l.length ≤ 4294967296) :
    call E 108 [.c (.sl 1 nl t (ints l)), .fn 109 [.ptr 0 0 0 0]] [.box [.c (.sl 2 nl2 t2 ys)]] = some ([V.b (l.any (noNum ys.length))], [.box [.c (.sl 2 nl2 t2 ys)]]) := by
  refine call_of (E := E) (sh := sh) (ct := ctOf [(145, s145)]) (na := 2) (m := 1) (ctOf_cons s145_ok ctOf_nil) rfl rfl rfl rfl rfl rfl ?_
  rw [t46c, fd_chk (isInts_ints _), fd_chk (by simpa using hl), fd_leaf, toInts_ints, firstAt_any]
theorem f46b (l : List Int) (nl : Option Bool) (t : Bool) (nl2 : Option Bool) (t2 : Bool) (r : List Cm) (c : C) (st : Int) (hr : r.length ≤ 500) (hn : (l.all fun n => !noNum r.length n) = true) (hl : l.length ≤ 4294967296) :
    call E 108 [.c (.sl 1 nl t (ints l)), .fn 181 [.ptr 0 0 0 0, .ptr 1 0 0 0]] [.box [.c (.sl 2 nl2 t2 (repo r))], .box [.c c, V.i st]] = some ([V.b (l.any (lateFor r st))], [.box [.c (.sl 2 nl2 t2 (repo r))], .box [.c c, V.i st]]) := by
  refine call_of (E := E) (sh := sh) (ct := ctOf [(145, s145)]) (na := 2) (m := 2) (ctOf_cons s145_ok ctOf_nil) rfl rfl rfl rfl rfl rfl ?_
  rw [t46b, fd_chk (isInts_ints _), fd_chk (by simpa using hl), fd_chk (isRepo_repo _), fd_chk (by simpa using hr), toInts_ints, repo_length, fd_chk hn, fd_leaf, toRepo_repo, firstAt_any]
end Go.Proofs.YtbilmkcdhodenaaDoor.Gr

end

/-
  Chapter 12 (graph): trees of fault, written by a program.
-/
section
namespace Go.Proofs.YtbilmkcdhodenaaDoor.Gr
open Go Go.Ev
def s108 : CSpec := fun a h => match a, h with
  | [.c (.sl 1 _ _ xs), .fn 180 [.ptr 0 0 0 0]], [.box [.c (.sl 2 nl2 t2 ys)]] => some ([isInts xs, decide (xs.length ≤ 4294967296)], [V.b ((toInts xs).any (noNum ys.length))], [.box [.c (.sl 2 nl2 t2 ys)]])
  | [.c (.sl 1 _ _ xs), .fn 109 [.ptr 0 0 0 0]], [.box [.c (.sl 2 nl2 t2 ys)]] => some ([isInts xs, decide (xs.length ≤ 4294967296)], [V.b ((toInts xs).any (noNum ys.length))], [.box [.c (.sl 2 nl2 t2 ys)]])
  | [.c (.sl 1 _ _ xs), .fn 181 [.ptr 0 0 0 0, .ptr 1 0 0 0]], [.box [.c (.sl 2 nl2 t2 ys)], .box [.c c, .c (.int .i64 st)]] =>
    some ([isInts xs, decide (xs.length ≤ 4294967296), isRepo ys, decide (ys.length ≤ 500), (toInts xs).all fun n => !noNum ys.length n], [V.b ((toInts xs).any (lateFor (toRepo ys) st))], [.box [.c (.sl 2 nl2 t2 ys)], .box [.c c, .c (.int .i64 st)]])
  | _, _ => none
noncomputable abbrev p144 : Par := par E sh (ctOf [(108, s108)]) 144 2 0
theorem t144 (nl : Option Bool) (t : Bool) (xs : List (List C)) (nl2 : Option Bool) (t2 : Bool) (ps : List (List C)) (st : Int) : p144.ft [V.c (C.sl 2 nl t xs), V.agg [V.c (C.sl 1 nl2 t2 ps), V.i st]] [] = Tr.br (decide (st < 0)) (Tr.leaf (R.out [V.c (C.int IntKind.i64 2)] [])) (Tr.br (decide (1099511627776 < st)) (Tr.leaf (R.out [V.c (C.int IntKind.i64 2)] [])) (Tr.br (decide (2 < (↑ps.length : Int))) (Tr.leaf (R.out [V.c (C.int IntKind.i64 2)] [])) (Tr.br ((↑ps.length : Int) == 2) (Tr.chk true (Tr.chk true (Tr.chk (decide (Int.toNat 0 < ps.length)) (Tr.chk (shOk [Sk.int IntKind.i64] (ps.getD (Int.toNat 0) [])) (Tr.chk true (Tr.chk true (Tr.chk (decide (Int.toNat 1 < ps.length)) (Tr.chk (shOk [Sk.int IntKind.i64] (ps.getD (Int.toNat 1) [])) (Tr.br (((ps.getD (Int.toNat 0) []).headD C.pnil).i == ((ps.getD (Int.toNat 1) []).headD C.pnil).i) (Tr.leaf (R.out [V.c (C.int IntKind.i64 2)] [])) (Tr.chk (isInts ps) (Tr.chk (decide (ps.length ≤ 4294967296)) (Tr.br ((toInts ps).any (noNum xs.length)) (Tr.leaf (R.out [V.c (C.int IntKind.i64 17)] [])) (Tr.chk (isInts ps) (Tr.chk (decide (ps.length ≤ 4294967296)) (Tr.chk (isRepo xs) (Tr.chk (decide (xs.length ≤ 500)) (Tr.chk ((toInts ps).all fun (n : Int) => !noNum xs.length n) (Tr.br ((toInts ps).any (lateFor (toRepo xs) st)) (Tr.leaf (R.out [V.c (C.int IntKind.i64 14)] [])) (Tr.leaf (R.out [V.c (C.int IntKind.i64 0)] [])))))))))))))))))))) (Tr.chk (isInts ps) (Tr.chk (decide (ps.length ≤ 4294967296)) (Tr.br ((toInts ps).any (noNum xs.length)) (Tr.leaf (R.out [V.c (C.int IntKind.i64 17)] [])) (Tr.chk (isInts ps) (Tr.chk (decide (ps.length ≤ 4294967296)) (Tr.chk (isRepo xs) (Tr.chk (decide (xs.length ≤ 500)) (Tr.chk ((toInts ps).all fun (n : Int) => !noNum xs.length n) (Tr.br ((toInts ps).any (lateFor (toRepo xs) st)) (Tr.leaf (R.out [V.c (C.int IntKind.i64 14)] [])) (Tr.leaf (R.out [V.c (C.int IntKind.i64 0)] [])))))))))))))) := by kernel_rfl
end Go.Proofs.YtbilmkcdhodenaaDoor.Gr

end

/-
  Chapter 12 (graph): fault.
-/
section
namespace Go.Proofs.YtbilmkcdhodenaaDoor.Gr
open Go Go.Ev

theorem s108_ok : CSpecOk E 108 s108 := by
  intro a h cs vals h' he hc
  unfold s108 at he
  split at he <;> simp only [Option.some.injEq, Prod.mk.injEq, reduceCtorEq] at he <;> obtain ⟨rfl, rfl, rfl⟩ := he <;> simp only [allT, Bool.and_eq_true, decide_eq_true_eq, and_true] at hc
  · rename_i nl t xs nl2 t2 ys
    have := f46a (toInts xs) nl t nl2 t2 ys (by rw [toInts_length]; exact hc.2)
    rwa [← ints_of hc.1] at this
  · rename_i nl t xs nl2 t2 ys
    have := f46c (toInts xs) nl t nl2 t2 ys (by rw [toInts_length]; exact hc.2)
    rwa [← ints_of hc.1] at this
  · rename_i nl t xs nl2 t2 ys c st
    obtain ⟨h1, h2, h3, h4, h5⟩ := hc
    have := f46b (toInts xs) nl t nl2 t2 (toRepo ys) c st (by rw [toRepo_length]; exact h4) (by rw [toRepo_length]; exact h5) (by rw [toInts_length]; exact h2)
    rwa [← ints_of h1, ← repo_of h3] at this

theorem f144 (l : List Cm) (nl : Option Bool) (t : Bool) (nl2 : Option Bool) (t2 : Bool) (c : Cm) (hl : l.length ≤ 500) (hc : c.1.length ≤ 4294967296) :
    call E 144 [.c (.sl 2 nl t (repo l)), .agg [.c (.sl 1 nl2 t2 (ints c.1)), V.i c.2]] [] = some ([V.i (faultG l c)], []) := by
  obtain ⟨ps, st⟩ := c
  refine call_of (E := E) (sh := sh) (ct := ctOf [(108, s108)]) (na := 2) (m := 0) (ctOf_cons s108_ok ctOf_nil) rfl rfl rfl rfl rfl rfl ?_
  simp only at hc ⊢
  rw [t144]
  have rest : ∀ {x : Option R}, (if (ps.any (noNum l.length)) = true then some (R.out [V.c (C.int .i64 17)] []) else x) = some (R.out [V.i (if (ps.any (noNum l.length)) = true then 17 else if (ps.any (lateFor l st)) = true then 14 else 0)] []) ↔ ((ps.any (noNum l.length)) = false → x = some (R.out [V.i (if (ps.any (lateFor l st)) = true then 14 else 0)] [])) := by
    intro x
    cases ps.any (noNum l.length) <;> simp
  have hall : ∀ (_ : ps.any (noNum l.length) = false), (ps.all fun n => !noNum l.length n) = true := by
    intro h
    rw [List.any_eq_false] at h
    rw [List.all_eq_true]
    intro x hx
    simpa using h x hx
  simp only [fd_br, fd_leaf, ints_length, repo_length, decide_eq_true_eq, beq_iff_eq, toInts_ints, toRepo_repo]
  unfold faultG
  simp only
  by_cases h1 : st < 0
  · simp [h1]
  rw [if_neg h1]
  by_cases h2 : 1099511627776 < st
  · simp [h2]
  rw [if_neg h2]
  by_cases h3 : 2 < ps.length
  · rw [if_pos (by omega), if_pos (by simp [h3])]
  rw [if_neg (by omega)]
  have tail : ∀ {x : Option R}, (ps.any (noNum l.length) = false → x = (if (ps.any (lateFor l st)) = true then some (R.out [V.c (C.int .i64 14)] []) else some (R.out [V.c (C.int .i64 0)] []))) →
      (if (ps.any (noNum l.length)) = true then some (R.out [V.c (C.int .i64 17)] []) else x) = some (R.out [V.i (if (ps.any (noNum l.length)) = true then 17 else if (ps.any (lateFor l st)) = true then 14 else 0)] []) := by
    intro x hx
    rw [rest]
    intro h
    rw [hx h]
    split <;> rfl
  by_cases h4 : ps.length = 2
  · rw [if_pos (by omega)]
    match ps, h4 with
    | [a, b], _ =>
      rw [fd_chk (by rfl), fd_chk (by rfl), fd_chk (by rfl), fd_chk (by rfl), fd_chk (by rfl), fd_chk (by rfl), fd_chk (by rfl), fd_chk (by rfl), fd_br]
      by_cases h5 : a = b
      · subst h5
        rw [if_pos (by simp [ints, ei, C.i]), if_pos (by simp)]
        rfl
      · rw [if_neg (by simpa [ints, ei, C.i] using h5), if_neg (by simp [h1, h2, h5])]
        rw [fd_chk (isInts_ints _), fd_chk (by simp), fd_br]
        refine tail fun h => ?_
        rw [fd_chk (isInts_ints _), fd_chk (by simp), fd_chk (isRepo_repo _), fd_chk (by simpa using hl), fd_chk (hall h), fd_br]
        rfl
  · rw [if_neg (by omega), if_neg (by simp [h1, h2, h3, h4])]
    rw [fd_chk (isInts_ints _), fd_chk (by simpa using hc), fd_br]
    refine tail fun h => ?_
    rw [fd_chk (isInts_ints _), fd_chk (by simpa using hc), fd_chk (isRepo_repo _), fd_chk (by simpa using hl), fd_chk (hall h), fd_br]
    rfl
end Go.Proofs.YtbilmkcdhodenaaDoor.Gr

end

/-
  Chapter 12 (graph): trees, written by a program.
-/
section
namespace Go.Proofs.YtbilmkcdhodenaaDoor.Gr
open Go Go.Ev
def s144 : CSpec := fun a h => match a, h with
  | [.c (.sl 2 _ _ xs), .agg [.c (.sl 1 _ _ ps), .c (.int .i64 st)]], [] => some ([isRepo xs, decide (xs.length ≤ 500), isInts ps, decide (ps.length ≤ 4294967296)], [V.i (faultG (toRepo xs) (toInts ps, st))], [])
  | _, _ => none
noncomputable abbrev p107 : Par := par E sh (ctOf [(144, s144)]) 107 1 0
abbrev s107_0 (nl : Option Bool) (t : Bool) (xs : List (List C)) (i11 : Int) (i12 : Int) : Fr × Hp := ([(0, V.c (C.sl 2 nl t xs)), (10, V.c (C.sl 2 nl t xs)), (11, V.c (C.int IntKind.i64 i11)), (12, V.c (C.int IntKind.i64 i12))], [])
noncomputable abbrev b107_0 : Code := loopAt (codeOf p107.E p107.g) 0
abbrev x107_0x0 (i2 : Int) (i3 : Int) (nlh0 : Option Bool) (xsh0 : List (List C)) (ih0 : Int) : Ex × Fr × Hp := (Ex.ret, [(2, V.c (C.int IntKind.i64 i2)), (3, V.c (C.int IntKind.i64 i3))], [O.box [V.c (C.sl 1 nlh0 false xsh0), V.c (C.int IntKind.i64 ih0)]])
abbrev x107_0x1 (nl : Option Bool) (t : Bool) (xs : List (List C)) (i11 : Int) (i12 : Int) : Ex × Fr × Hp := (Ex.exit 0, [(0, V.c (C.sl 2 nl t xs)), (10, V.c (C.sl 2 nl t xs)), (11, V.c (C.int IntKind.i64 i11)), (12, V.c (C.int IntKind.i64 i12)), (13, V.c (C.bool false))], [])
theorem t107_0 (nl : Option Bool) (t : Bool) (xs : List (List C)) (i11 : Int) (i12 : Int) : p107.lts b107_0 (s107_0 nl t xs i11 i12) = (Tr.br (decide (i12 < i11)) (Tr.chk (decide (0 ≤ i12)) (Tr.chk true (Tr.chk (decide (i12.toNat < xs.length)) (Tr.chk (shOk [Sk.sl 1, Sk.int IntKind.i64] (xs.getD i12.toNat [])) (Tr.chk (decide (0 ≤ i12)) (Tr.chk true (Tr.chk (decide (i12.toNat ≤ xs.length)) (Tr.chk true (Tr.chk (isRepo (List.take i12.toNat xs)) (Tr.chk (decide ((List.take i12.toNat xs).length ≤ 500)) (Tr.chk (isInts ((xs.getD i12.toNat []).headD C.pnil).xs) (Tr.chk (decide (((xs.getD i12.toNat []).headD C.pnil).xs.length ≤ 4294967296)) (Tr.br (faultG (toRepo (List.take i12.toNat xs)) (toInts ((xs.getD i12.toNat []).headD C.pnil).xs, ((xs.getD i12.toNat []).tail.headD C.pnil).i) != 0) (Tr.leaf (R.x (x107_0x0 (IntKind.i64.wrap (i12 + 1)) (faultG (toRepo (List.take i12.toNat xs)) (toInts ((xs.getD i12.toNat []).headD C.pnil).xs, ((xs.getD i12.toNat []).tail.headD C.pnil).i)) (none) (((xs.getD i12.toNat []).headD C.pnil).xs) (((xs.getD i12.toNat []).tail.headD C.pnil).i)))) (Tr.leaf (R.s (s107_0 nl t xs i11 (IntKind.i64.wrap (i12 + 1)))))))))))))))))) (Tr.leaf (R.x (x107_0x1 nl t xs i11 i12)))) := by kernel_rfl
theorem k107_0x0 (i2 : Int) (i3 : Int) (nlh0 : Option Bool) (xsh0 : List (List C)) (ih0 : Int) : p107.fkx 0 (x107_0x0 i2 i3 nlh0 xsh0 ih0) = (Tr.leaf (R.out [V.c (C.int IntKind.i64 i2), V.c (C.int IntKind.i64 i3)] [])) := by kernel_rfl
theorem k107_0x1 (nl : Option Bool) (t : Bool) (xs : List (List C)) (i11 : Int) (i12 : Int) : p107.fkx 0 (x107_0x1 nl t xs i11 i12) = (Tr.leaf (R.out [V.c (C.int IntKind.i64 (↑xs.length : Int)), V.c (C.int IntKind.i64 0)] [])) := by kernel_rfl
theorem t107 (nl : Option Bool) (t : Bool) (xs : List (List C)) : p107.ft ([V.c (C.sl 2 nl t xs)]) ([]) = (Tr.br (decide (500 < (↑xs.length : Int))) (Tr.leaf (R.out [V.c (C.int IntKind.i64 500), V.c (C.int IntKind.i64 5)] [])) (Tr.ls 0 (s107_0 nl t xs ((↑xs.length : Int)) (0)))) := by kernel_rfl
end Go.Proofs.YtbilmkcdhodenaaDoor.Gr

end

/-
  Chapter 12 (graph): Check, few.
-/
section
namespace Go.Proofs.YtbilmkcdhodenaaDoor.Gr
open Go Go.Ev

theorem getD_of {α : Type} {l : List α} {k : Nat} {x d : α} (h : l[k]? = some x) : l.getD k d = x := by rw [List.getD_eq_getElem?_getD, h]; rfl
theorem repo_at {l : List Cm} {k : Nat} {x : Cm} (h : l[k]? = some x) : (repo l).getD k [] = ec x := by
  rw [List.getD_eq_getElem?_getD]; simp [repo, h]
theorem ints_at {l : List Int} {k : Nat} {x : Int} (h : l[k]? = some x) : (ints l).getD k [] = ei x := by
  rw [List.getD_eq_getElem?_getD]; simp [ints, h]

theorem s144_ok : CSpecOk E 144 s144 := by
  intro a h cs vals h' he hc
  unfold s144 at he
  split at he <;> simp only [Option.some.injEq, Prod.mk.injEq, reduceCtorEq] at he
  obtain ⟨rfl, rfl, rfl⟩ := he
  simp only [allT, Bool.and_eq_true, decide_eq_true_eq, and_true] at hc
  obtain ⟨h1, h2, h3, h4⟩ := hc
  rename_i nl t xs nl2 t2 ps st
  have := f144 (toRepo xs) nl t nl2 t2 (toInts ps, st) (by rw [toRepo_length]; exact h2) (by rw [toInts_length]; exact h4)
  rwa [← repo_of h1, ← ints_of h3] at this

/-- no parent list is too great to be counted -/
def Small (l : List Cm) : Prop := ∀ c ∈ l, c.1.length ≤ 4294967296

theorem f107 (l : List Cm) (nl : Option Bool) (t : Bool) (hs : Small l) : call E 107 [.c (.sl 2 nl t (repo l))] [] = some ([V.i (checkG l).1, V.i (checkG l).2], []) := by
  have hct : CT.ok E (ctOf [(144, s144)]) := ctOf_cons s144_ok ctOf_nil
  refine call_of (E := E) (sh := sh) (ct := ctOf [(144, s144)]) (na := 1) (m := 0) hct rfl rfl rfl rfl rfl rfl ?_
  rw [t107, fd_br]
  by_cases h : 500 < l.length
  · rw [if_pos (by simp only [repo_length, decide_eq_true_eq]; omega), fd_leaf]
    simp [checkG, h]
  · rw [if_neg (by simp only [repo_length, decide_eq_true_eq]; omega)]
    have hloop := loop_list (p := p107) hct (b := b107_0) l (fun k (_ : Unit) => s107_0 nl t (repo l) l.length k) (fun _ _ => True)
      (fun r _ => if (checkFrom l r.length (l.length - r.length)).2 = 0 then x107_0x1 nl t (repo l) l.length l.length
        else x107_0x0 (checkFrom l r.length (l.length - r.length)).1 (checkFrom l r.length (l.length - r.length)).2 none (ints (l.getD ((checkFrom l r.length (l.length - r.length)).1 - 1).toNat ([], 0)).1) (l.getD ((checkFrom l r.length (l.length - r.length)).1 - 1).toNat ([], 0)).2)
      (by
        intro k _ c hc hk _
        have hw := wrap_same (n := (k : Int) + 1) (by omega) (by omega)
        have hmem : c ∈ l := List.mem_of_getElem? hc
        have e1 : (c :: l.drop (k + 1)).length = (l.length - (k + 1)) + 1 := by simp
        have e2 : l.length - (l.length - (k + 1) + 1) = k := by omega
        have e3 : (l.drop (k + 1)).length = l.length - (k + 1) := by simp
        have e4 : l.length - (l.length - (k + 1)) = k + 1 := by omega
        rw [e1, e2, e3, e4]
        simp only [t107_0, ld_br, ld_chk', ld_leaf, repo_length, repo_at hc, Int.toNat_natCast, hk, ec_ok, ec_par, ec_stamp, ints_length, hw, Int.ofNat_lt, decide_true, Int.natCast_nonneg, if_true, Nat.le_of_lt hk, repo_take, isRepo_repo, isInts_ints, toRepo_repo, toInts_ints, checkFrom, getD_of hc, decide_eq_true_eq, hs c hmem, List.length_take, show min k l.length ≤ 500 by omega]
        by_cases hf : faultG (l.take k) c = 0
        · exact .inl ⟨(), trivial, by rw [if_pos hf], by rw [if_neg (by simp [hf])]; rfl⟩
        · rw [if_neg hf]
          simp only [if_neg hf]
          refine .inr ⟨by simp, ?_⟩
          rw [if_pos (by simpa using hf)]
          simp [hc])
      (by
        intro _ _
        simp [t107_0, ld_br, ld_leaf, checkFrom]) () trivial
    rw [Nat.sub_self] at hloop
    unfold checkG
    rw [if_neg h]
    rw [repo_length]
    by_cases hz' : (checkFrom l l.length 0).2 = 0
    case neg =>
      rw [if_neg hz'] at hloop
      exact fd_ls (p := p107) hct (by kernel_rfl) hloop (by rw [k107_0x0, fd_leaf]) rfl
    · rw [if_pos hz'] at hloop
      refine fd_ls (p := p107) hct (by kernel_rfl) hloop ?_ rfl
      rw [k107_0x1, fd_leaf]
      have : ∀ n i, (checkFrom l n i).2 = 0 → (checkFrom l n i).1 = l.length := by
        intro n
        induction n with
        | zero => intro i _; rfl
        | succ n ih =>
          intro i
          simp only [checkFrom]
          split
          · exact ih _
          · intro hh; simp only at hh; contradiction
      rw [this _ _ hz', hz', repo_length]
end Go.Proofs.YtbilmkcdhodenaaDoor.Gr

end

/-
  Chapter 12 (graph): trees, written by a program.
-/
section
namespace Go.Proofs.YtbilmkcdhodenaaDoor.Gr
open Go Go.Ev
noncomputable abbrev p65 : Par := par E sh (ctOf [(107, s107), (108, s108)]) 65 2 0
theorem t65 (nl : Option Bool) (t : Bool) (xs : List (List C)) (nl2 : Option Bool) (t2 : Bool) (ys : List (List C)) : p65.ft ([V.c (C.sl 2 nl t xs), V.c (C.sl 1 nl2 t2 ys)]) ([]) = (Tr.chk (isRepo xs) (Tr.chk (smallB (toRepo xs)) (Tr.br ((checkG (toRepo xs)).snd != 0) (Tr.leaf (R.out [V.c (C.bool false)] [])) (Tr.chk (isInts ys) (Tr.chk (decide (ys.length ≤ 4294967296)) (Tr.leaf (R.out [V.c (C.bool !(toInts ys).any (noNum xs.length))] []))))))) := by kernel_rfl
noncomputable abbrev p28 : Par := par E sh (ctOf [(65, s65)]) 28 2 0
abbrev s28_0 (nl : Option Bool) (t : Bool) (xs : List (List C)) (n5 : Nat) (nl6 : Option Bool) (t6 : Bool) (xs6 : List (List C)) (ys0 : List (List C)) : Fr × Hp := ([(0, V.c (C.sl 2 nl t xs)), (5, V.buf 0 0 0 n5), (6, V.c (C.sl 1 nl6 t6 xs6))], [O.mem 1 0 ys0])
noncomputable abbrev b28_0 : Code := loopAt (codeOf p28.E p28.g) 0
abbrev x28_0x0 (nl : Option Bool) (t : Bool) (xs : List (List C)) (n5 : Nat) (nl6 : Option Bool) (t6 : Bool) (xs6 : List (List C)) (ys0 : List (List C)) : Ex × Fr × Hp := (Ex.exit 0, [(0, V.c (C.sl 2 nl t xs)), (5, V.buf 0 0 0 n5), (6, V.c (C.sl 1 nl6 t6 xs6)), (22, V.c (C.bool false))], [O.mem 1 0 ys0])
theorem t28_0 (nl : Option Bool) (t : Bool) (xs : List (List C)) (n5 : Nat) (nl6 : Option Bool) (t6 : Bool) (xs6 : List (List C)) (ys0 : List (List C)) : p28.lts b28_0 (s28_0 nl t xs n5 nl6 t6 xs6 ys0) = (Tr.br (decide (0 < (↑xs6.length : Int))) (Tr.chk true (Tr.chk true (Tr.chk (decide (Int.toNat 0 < xs6.length)) (Tr.chk (shOk [Sk.int IntKind.i64] (xs6.getD (Int.toNat 0) [])) (Tr.chk true (Tr.chk true (Tr.chk (decide (n5 + 1 < 4294967296)) (Tr.chk true (Tr.chk true (Tr.chk true (Tr.chk (decide (Int.toNat 0 < xs6.length)) (Tr.chk (shOk [Sk.int IntKind.i64] (xs6.getD (Int.toNat 0) [])) (Tr.chk (decide (0 ≤ IntKind.i64.wrap (((xs6.getD (Int.toNat 0) []).headD C.pnil).i - 1))) (Tr.chk true (Tr.chk (decide ((IntKind.i64.wrap (((xs6.getD (Int.toNat 0) []).headD C.pnil).i - 1)).toNat < xs.length)) (Tr.chk (shOk [Sk.sl 1, Sk.int IntKind.i64] (xs.getD (IntKind.i64.wrap (((xs6.getD (Int.toNat 0) []).headD C.pnil).i - 1)).toNat [])) (Tr.leaf (R.s (s28_0 nl t xs (n5 + 1) (none) false (((xs.getD (IntKind.i64.wrap (((xs6.getD (Int.toNat 0) []).headD C.pnil).i - 1)).toNat []).headD C.pnil).xs) (List.take n5 ys0 ++ [[(Sk.int IntKind.i64).mk ((xs6.getD (Int.toNat 0) []).headD C.pnil)]])))))))))))))))))))) (Tr.leaf (R.x (x28_0x0 nl t xs n5 nl6 t6 xs6 ys0)))) := by kernel_rfl
theorem k28_0x0 (nl : Option Bool) (t : Bool) (xs : List (List C)) (n5 : Nat) (nl6 : Option Bool) (t6 : Bool) (xs6 : List (List C)) (ys0 : List (List C)) : p28.fkx 0 (x28_0x0 nl t xs n5 nl6 t6 xs6 ys0) = (Tr.leaf (R.out [V.c (C.sl 1 none false (List.take n5 ys0))] [])) := by kernel_rfl
theorem t28 (nl : Option Bool) (t : Bool) (xs : List (List C)) (n : Int) : p28.ft ([V.c (C.sl 2 nl t xs), V.i n]) ([]) = (Tr.chk (isRepo xs) (Tr.chk (smallB (toRepo xs)) (Tr.chk true (Tr.chk true (Tr.br (!hasG (toRepo xs) (toInts [[C.int IntKind.i64 n]])) (Tr.leaf (R.out [V.c (C.sl 1 none false [])] [])) (Tr.chk (decide (0 ≤ IntKind.i64.wrap (n - 1))) (Tr.chk true (Tr.chk (decide ((IntKind.i64.wrap (n - 1)).toNat < xs.length)) (Tr.chk (shOk [Sk.sl 1, Sk.int IntKind.i64] (xs.getD (IntKind.i64.wrap (n - 1)).toNat [])) (Tr.ls 0 (s28_0 nl t xs (1) (none) false (((xs.getD (IntKind.i64.wrap (n - 1)).toNat []).headD C.pnil).xs) ([[C.int IntKind.i64 n]])))))))))))) := by kernel_rfl
end Go.Proofs.YtbilmkcdhodenaaDoor.Gr

end

/-
  Chapter 12 (graph): has, reach, list.
-/
section
namespace Go.Proofs.YtbilmkcdhodenaaDoor.Gr
open Go Go.Ev

theorem small_of {l : List Cm} (h : smallB l = true) : Small l := by
  intro c hc
  simp only [smallB, List.all_eq_true, decide_eq_true_eq] at h
  exact h c hc
theorem s107_ok : CSpecOk E 107 s107 := by
  intro a h cs vals h' he hc
  unfold s107 at he
  split at he <;> simp only [Option.some.injEq, Prod.mk.injEq, reduceCtorEq] at he
  obtain ⟨rfl, rfl, rfl⟩ := he
  simp only [allT, Bool.and_eq_true, and_true] at hc
  rename_i nl t xs
  have := f107 (toRepo xs) nl t (small_of hc.2)
  rwa [← repo_of hc.1] at this

theorem f65 (l : List Cm) (nl : Option Bool) (t : Bool) (some' : List Int) (nl2 : Option Bool) (t2 : Bool) (hs : smallB l = true) (hl : some'.length ≤ 4294967296) :
    call E 65 [.c (.sl 2 nl t (repo l)), .c (.sl 1 nl2 t2 (ints some'))] [] = some ([V.b (hasG l some')], []) := by
  refine call_of (E := E) (sh := sh) (ct := ctOf [(107, s107), (108, s108)]) (na := 2) (m := 0) (ctOf_cons s107_ok (ctOf_cons s108_ok ctOf_nil)) rfl rfl rfl rfl rfl rfl ?_
  simp only [t65, ld_br, ld_chk', ld_leaf, fd_br, fd_chk', fd_leaf, decide_true, decide_eq_true_eq, if_true, Int.toNat_natCast, Int.natCast_nonneg, Int.ofNat_lt, Bool.false_eq_true, if_false, bne_iff_ne, beq_iff_eq, ne_eq, not_true_eq_false, not_false_eq_true, Bool.not_eq_true', decide_eq_false_iff_not, reduceCtorEq, repo_length, ints_length, ec_ok, ec_par, ec_stamp, ei_ok, ei_i, isRepo_repo, isInts_ints, toRepo_repo, toInts_ints, repo_take, repo_drop, ints_take, ints_drop, ints_append, mk_headD, ei_len, ei_take, Nat.zero_add, Nat.le_refl, List.take_length, ints_snoc, ints_snoc', hs, hl, hasG, right]
  by_cases h : (checkG l).2 = 0 <;> simp [h]
theorem s65_ok : CSpecOk E 65 s65 := by
  intro a h cs vals h' he hc
  unfold s65 at he
  split at he <;> simp only [Option.some.injEq, Prod.mk.injEq, reduceCtorEq] at he
  obtain ⟨rfl, rfl, rfl⟩ := he
  simp only [allT, Bool.and_eq_true, and_true, decide_eq_true_eq] at hc
  rename_i nl t xs nl2 t2 ys
  have := f65 (toRepo xs) nl t (toInts ys) nl2 t2 hc.2.1 (by rw [toInts_length]; exact hc.2.2.2)
  rwa [← repo_of hc.1, ← ints_of hc.2.2.1] at this

/-! ## what right commits are -/
theorem checkFrom_ok {l : List Cm} : ∀ {k i : Nat}, k + i = l.length → (checkFrom l k i).2 = 0 → ∀ j, i ≤ j → j < l.length → faultG (l.take j) (l.getD j ([], 0)) = 0
  | 0, i, h, _, j, h1, h2 => by omega
  | k + 1, i, h, hz, j, h1, h2 => by
    simp only [checkFrom] at hz
    by_cases hf : faultG (l.take i) (l.getD i ([], 0)) = 0
    · rw [if_pos hf] at hz
      rcases Nat.lt_or_ge i j with hij | hij
      · exact checkFrom_ok (by omega) hz j (by omega) h2
      · obtain rfl : i = j := by omega
        exact hf
    · rw [if_neg hf] at hz
      exact absurd hz hf
theorem right_len {l : List Cm} (h : right l = true) : l.length ≤ 500 := by
  simp only [right, beq_iff_eq, checkG] at h
  split at h
  · simp at h
  · omega
theorem right_fault {l : List Cm} (h : right l = true) {j : Nat} (hj : j < l.length) : faultG (l.take j) (l.getD j ([], 0)) = 0 := by
  have hl := right_len h
  simp only [right, beq_iff_eq, checkG] at h
  rw [if_neg (by omega)] at h
  exact checkFrom_ok (by omega) h j (by omega) hj
/-- A commit without a fault. -/
theorem fault_zero {l : List Cm} {c : Cm} (h : faultG l c = 0) : 0 ≤ c.2 ∧ c.2 ≤ 1099511627776 ∧ c.1.length ≤ 2 ∧ (∀ p ∈ c.1, 1 ≤ p ∧ p ≤ l.length) ∧ (∀ p ∈ c.1, (l.getD (p - 1).toNat ([], 0)).2 < c.2) := by
  unfold faultG at h
  split at h
  · simp at h
  · rename_i h1
    split at h
    · simp at h
    · rename_i h2
      split at h
      · simp at h
      · rename_i h3
        simp only [not_or] at h1
        refine ⟨by omega, by omega, by omega, fun p hp => ?_, fun p hp => ?_⟩
        · simp only [Bool.not_eq_true, List.any_eq_false] at h2
          have := h2 p hp
          simp only [noNum, Bool.not_eq_true, Bool.or_eq_false_iff, decide_eq_false_iff_not] at this
          omega
        · simp only [Bool.not_eq_true, List.any_eq_false] at h3
          have := h3 p hp
          simp only [lateFor, Bool.not_eq_true, decide_eq_false_iff_not] at this
          omega
theorem right_par {l : List Cm} (h : right l = true) {j : Nat} {c : Cm} (hj : l[j]? = some c) : ∀ p ∈ c.1, 1 ≤ p ∧ p ≤ j := by
  have hlt : j < l.length := (List.getElem?_eq_some_iff.1 hj).1
  have hf := right_fault h hlt
  rw [getD_of hj] at hf
  intro p hp
  have := (fault_zero hf).2.2.2.1 p hp
  rw [List.length_take] at this
  omega

end Go.Proofs.YtbilmkcdhodenaaDoor.Gr

end

/-
  Chapter 12 (graph): Reach, Before, Since, Gen, Bases, First, AsOf.
-/
section
namespace Go.Proofs.YtbilmkcdhodenaaDoor.Gr
open Go Go.Ev
theorem toInts_1 (n : Int) : toInts [[C.int .i64 n]] = [n] := rfl
theorem has_right {l : List Cm} {s : List Int} (h : hasG l s = true) : right l = true ∧ ∀ n ∈ s, noNum l.length n = false := by
  simp only [hasG, Bool.and_eq_true, Bool.not_eq_true', List.any_eq_false] at h
  exact ⟨h.1, fun n hn => by simpa using h.2 n hn⟩
theorem noNum_iff {len : Nat} {n : Int} : noNum len n = false ↔ 1 ≤ n ∧ n ≤ len := by
  simp only [noNum, Bool.or_eq_false_iff, decide_eq_false_iff_not]; omega

end Go.Proofs.YtbilmkcdhodenaaDoor.Gr

end

/-
  Chapter 12 (graph): Gen, First, AsOf, Bases.
-/
section
namespace Go.Proofs.YtbilmkcdhodenaaDoor.Gr
open Go Go.Ev
theorem f28 (l : List Cm) (nl : Option Bool) (t : Bool) (n : Int) (hs : smallB l = true) : call E 28 [.c (.sl 2 nl t (repo l)), V.i n] [] = some ([.c (.sl 1 none false (ints (firstG l n)))], []) := by
  refine call_of (E := E) (sh := sh) (ct := ctOf [(65, s65)]) (na := 2) (m := 0) (ctOf_cons s65_ok ctOf_nil) rfl rfl rfl rfl rfl rfl ?_
  simp only [t28, ld_br, ld_chk', ld_leaf, fd_br, fd_chk', fd_leaf, decide_true, decide_eq_true_eq, if_true, Int.toNat_natCast, Int.natCast_nonneg, Int.ofNat_lt, Bool.false_eq_true, if_false, bne_iff_ne, beq_iff_eq, ne_eq, not_true_eq_false, not_false_eq_true, Bool.not_eq_true', decide_eq_false_iff_not, reduceCtorEq, repo_length, ints_length, ec_ok, ec_par, ec_stamp, ei_ok, ei_i, isRepo_repo, isInts_ints, toRepo_repo, toInts_ints, repo_take, repo_drop, ints_take, ints_drop, ints_append, mk_headD, ei_len, ei_take, Nat.zero_add, Nat.le_refl, List.take_length, ints_snoc, ints_snoc', hs, toInts_1, firstG]
  cases h : hasG l [n] with
  | false => rfl
  | true =>
    obtain ⟨h1, h2⟩ := has_right h
    have ha := noNum_iff.1 (h2 n (by simp))
    have hl := right_len h1
    have hw := wrap_same (n := n - 1) (by omega) (by omega)
    have hlt : (n - 1).toNat < l.length := by omega
    have hc : l[(n - 1).toNat]? = some l[(n - 1).toNat] := List.getElem?_eq_getElem hlt
    simp only [ld_br, ld_chk', ld_leaf, fd_br, fd_chk', fd_leaf, decide_true, decide_eq_true_eq, if_true, Int.toNat_natCast, Int.natCast_nonneg, Int.ofNat_lt, Bool.false_eq_true, if_false, bne_iff_ne, beq_iff_eq, ne_eq, not_true_eq_false, not_false_eq_true, Bool.not_eq_true', decide_eq_false_iff_not, reduceCtorEq, hw, repo_length, ints_length, ec_ok, ec_par, ec_stamp, ei_ok, ei_i, isRepo_repo, isInts_ints, toRepo_repo, toInts_ints, repo_take, repo_drop, ints_take, ints_drop, ints_append, mk_headD, ei_len, ei_take, Nat.zero_add, Nat.le_refl, List.take_length, ints_snoc, ints_snoc', repo_at hc, hlt, getD_of hc]
    simp (disch := omega) only [if_pos]
    have hloop := loops_of (p := p28) (ctOf_cons s65_ok ctOf_nil) (b := b28_0) (fun i : Nat × List Int × List Int => s28_0 nl t (repo l) i.2.2.length none false (ints i.2.1) (ints i.2.2)) (fun i => (∀ x ∈ i.2.1, 1 ≤ x ∧ x ≤ i.1) ∧ i.1 ≤ l.length ∧ i.2.2.length + i.1 ≤ 501) (fun i => i.1)
      (fun i => x28_0x0 nl t (repo l) (i.2.2 ++ firstFrom l i.1 i.2.1).length none false (ints []) (ints (i.2.2 ++ firstFrom l i.1 i.2.1)))
      (by
        rintro ⟨k, p, out⟩ ⟨h3, h4, h5⟩
        simp only at h3 h4 h5
        cases p with
        | nil =>
          have : firstFrom l k [] = [] := by cases k <;> rfl
          refine .inr ⟨by simp, ?_⟩
          simp only [t28_0, ld_br, ld_chk', ld_leaf, fd_br, fd_chk', fd_leaf, decide_true, decide_eq_true_eq, if_true, Int.toNat_natCast, Int.natCast_nonneg, Int.ofNat_lt, Bool.false_eq_true, if_false, bne_iff_ne, beq_iff_eq, ne_eq, not_true_eq_false, not_false_eq_true, Bool.not_eq_true', decide_eq_false_iff_not, reduceCtorEq, repo_length, ints_length, ec_ok, ec_par, ec_stamp, ei_ok, ei_i, isRepo_repo, isInts_ints, toRepo_repo, toInts_ints, repo_take, repo_drop, ints_take, ints_drop, ints_append, mk_headD, ei_len, ei_take, Nat.zero_add, Nat.le_refl, List.take_length, ints_snoc, ints_snoc', List.length_nil, this, List.append_nil]
          rfl
        | cons p ps =>
          have hp := h3 p (by simp)
          cases k with
          | zero => omega
          | succ k =>
            have hw2 := wrap_same (n := p - 1) (by omega) (by omega)
            have hlt2 : (p - 1).toNat < l.length := by omega
            have hc2 : l[(p - 1).toNat]? = some l[(p - 1).toNat] := List.getElem?_eq_getElem hlt2
            have hg : (ints (p :: ps)).getD (Int.toNat 0) [] = ei p := rfl
            have h0 : Int.toNat 0 < (p :: ps).length := by simp
            refine .inl ⟨(k, (l.getD (p - 1).toNat ([], 0)).1, out ++ [p]), ⟨?_, by dsimp only; omega, by simp; omega⟩, by dsimp only; omega, ?_, ?_⟩
            · dsimp only
              rw [getD_of hc2]
              intro x hx
              have := right_par h1 hc2 x hx
              omega
            · simp only [firstFrom, List.append_assoc, List.cons_append, List.nil_append]
            · simp only [t28_0, ld_br, ld_chk', ld_leaf, fd_br, fd_chk', fd_leaf, decide_true, decide_eq_true_eq, if_true, Int.toNat_natCast, Int.natCast_nonneg, Int.ofNat_lt, Bool.false_eq_true, if_false, bne_iff_ne, beq_iff_eq, ne_eq, not_true_eq_false, not_false_eq_true, Bool.not_eq_true', decide_eq_false_iff_not, reduceCtorEq, repo_length, ints_length, ec_ok, ec_par, ec_stamp, ei_ok, ei_i, isRepo_repo, isInts_ints, toRepo_repo, toInts_ints, repo_take, repo_drop, ints_take, ints_drop, ints_append, mk_headD, ei_len, ei_take, Nat.zero_add, Nat.le_refl, List.take_length, ints_snoc, ints_snoc', hg, h0, hw2, repo_at hc2, hlt2, getD_of hc2]
              simp (disch := omega) only [if_pos]
              simp) (n.toNat, l[(n - 1).toNat].1, [n]) ⟨fun x hx => by have := right_par h1 hc x hx; dsimp only; omega, by dsimp only; omega, by simp; omega⟩
    refine fd_ls (p := p28) (ctOf_cons s65_ok ctOf_nil) (by kernel_rfl) hloop ?_ rfl
    rw [k28_0x0, fd_leaf]
    simp

theorem s28_ok : CSpecOk E 28 s28 := by
  intro a h cs vals h' he hc
  unfold s28 at he
  split at he <;> simp only [Option.some.injEq, Prod.mk.injEq, reduceCtorEq] at he
  obtain ⟨rfl, rfl, rfl⟩ := he
  simp only [allT, Bool.and_eq_true, and_true, decide_eq_true_eq] at hc
  rename_i nl t xs n
  have := f28 (toRepo xs) nl t n hc.2
  rwa [← repo_of hc.1] at this
end Go.Proofs.YtbilmkcdhodenaaDoor.Gr

end

/-
  Chapter 12 (graph): what the reference computes, in plain Lean, step by step as the code does; what is known of each as a callee.
-/
section
namespace Go.Proofs.YtbilmkcdhodenaaDoor.Gr
open Go Go.Ev
def firstFromR (l : List Cm) : Nat → Int → List Int
  | 0, _ => []
  | k + 1, n => match (l.getD (n - 1).toNat ([], 0)).1 with
    | [] => []
    | p :: _ => p :: firstFromR l k p
def firstR (l : List Cm) (n : Int) : List Int := if hasG l [n] then n :: firstFromR l (l.length - 1) n else []
def s198 : CSpec := fun a h => match a, h with
  | [.c (.sl 2 _ _ xs), .c (.int .i64 n)], [] => some ([isRepo xs, smallB (toRepo xs), !noNum xs.length n, decide (xs.length ≤ 4294967296)], [V.i (faultG ((toRepo xs).take (n - 1).toNat) ((toRepo xs).getD (n - 1).toNat ([], 0)))], [])
  | _, _ => none
def s177 : CSpec := s107
def s141 : CSpec := fun a h => match a, h with
  | [.c (.sl 2 _ _ xs)], [] => some ([isRepo xs, smallB (toRepo xs)], [V.b (right (toRepo xs))], [])
  | _, _ => none
def s106 : CSpec := fun a h => match a, h with
  | [.c (.sl 2 _ _ xs), .c (.int .i64 n)], [] => some ([isRepo xs, smallB (toRepo xs)], [V.b (hasG (toRepo xs) [n])], [])
  | _, _ => none
def s29 : CSpec := fun a h => match a, h with
  | [.c (.sl 1 _ _ xs), .c (.int .i64 n)], [] => some ([isInts xs, decide (xs.length < 4294967296)], [V.b ((toInts xs).contains n)], [])
  | _, _ => none
def s64 : CSpec := fun a h => match a, h with
  | [.c (.sl 2 _ _ xs), .c (.int .i64 n)], [] => some ([isRepo xs, smallB (toRepo xs)], [.c (.sl 1 none false (ints (firstR (toRepo xs) n)))], [])
  | _, _ => none
def s25 : CSpec := fun a h => match a, h with
  | [.c (.sl 1 _ _ xs), .c (.sl 1 _ _ ys)], [] => some ([isInts xs, isInts ys, decide (xs.length ≤ 4294967296)], [V.b (toInts xs == toInts ys)], [])
  | _, _ => none
end Go.Proofs.YtbilmkcdhodenaaDoor.Gr

end

/-
  Chapter 12 (graph): trees of the reference, written by a program.
-/
section
namespace Go.Proofs.YtbilmkcdhodenaaDoor.Gr
open Go Go.Ev
noncomputable abbrev p198 : Par := par E sh (ctOf []) 198 2 0
abbrev s198_0 (nl : Option Bool) (t : Bool) (xs : List (List C)) (n : Int) (i6 : Int) (nlh0 : Option Bool) (th0 : Bool) (xsh0 : List (List C)) (ih0 : Int) : Fr × Hp := ([(0, V.c (C.sl 2 nl t xs)), (1, V.c (C.int IntKind.i64 n)), (5, V.ptr 0 0 0 0), (6, V.c (C.int IntKind.i64 i6))], [O.box [V.c (C.sl 1 nlh0 th0 xsh0), V.c (C.int IntKind.i64 ih0)]])
noncomputable abbrev b198_0 : Code := loopAt (codeOf p198.E p198.g) 0
abbrev x198_0x0 (nlh0 : Option Bool) (th0 : Bool) (xsh0 : List (List C)) (ih0 : Int) : Ex × Fr × Hp := (Ex.ret, [(4, V.c (C.int IntKind.i64 17))], [O.box [V.c (C.sl 1 nlh0 th0 xsh0), V.c (C.int IntKind.i64 ih0)]])
abbrev x198_0x1 (nl : Option Bool) (t : Bool) (xs : List (List C)) (n : Int) (i6 : Int) (nlh0 : Option Bool) (th0 : Bool) (xsh0 : List (List C)) (ih0 : Int) : Ex × Fr × Hp := (Ex.exit 0, [(0, V.c (C.sl 2 nl t xs)), (1, V.c (C.int IntKind.i64 n)), (5, V.ptr 0 0 0 0), (6, V.c (C.int IntKind.i64 i6)), (48, V.c (C.bool false))], [O.box [V.c (C.sl 1 nlh0 th0 xsh0), V.c (C.int IntKind.i64 ih0)]])
abbrev s198_1 (nl : Option Bool) (t : Bool) (xs : List (List C)) (nlh0 : Option Bool) (th0 : Bool) (xsh0 : List (List C)) (ih0 : Int) (i7 : Int) : Fr × Hp := ([(0, V.c (C.sl 2 nl t xs)), (5, V.ptr 0 0 0 0), (7, V.c (C.int IntKind.i64 i7))], [O.box [V.c (C.sl 1 nlh0 th0 xsh0), V.c (C.int IntKind.i64 ih0)]])
noncomputable abbrev b198_1 : Code := loopAt (codeOf p198.E p198.g) 1
abbrev x198_1x0 (nlh0 : Option Bool) (th0 : Bool) (xsh0 : List (List C)) (ih0 : Int) : Ex × Fr × Hp := (Ex.ret, [(4, V.c (C.int IntKind.i64 14))], [O.box [V.c (C.sl 1 nlh0 th0 xsh0), V.c (C.int IntKind.i64 ih0)]])
abbrev x198_1x1 (nl : Option Bool) (t : Bool) (xs : List (List C)) (nlh0 : Option Bool) (th0 : Bool) (xsh0 : List (List C)) (ih0 : Int) (i7 : Int) : Ex × Fr × Hp := (Ex.exit 2, [(0, V.c (C.sl 2 nl t xs)), (5, V.ptr 0 0 0 0), (7, V.c (C.int IntKind.i64 i7)), (70, V.c (C.bool false))], [O.box [V.c (C.sl 1 nlh0 th0 xsh0), V.c (C.int IntKind.i64 ih0)]])
theorem t198_0 (nl : Option Bool) (t : Bool) (xs : List (List C)) (n : Int) (i6 : Int) (nlh0 : Option Bool) (th0 : Bool) (xsh0 : List (List C)) (ih0 : Int) : p198.lts b198_0 (s198_0 nl t xs n i6 nlh0 th0 xsh0 ih0) = (Tr.br (decide (i6 < (↑xsh0.length : Int))) (Tr.chk (decide (0 ≤ i6)) (Tr.chk true (Tr.chk (decide (i6.toNat < xsh0.length)) (Tr.chk (shOk [Sk.int IntKind.i64] (xsh0.getD i6.toNat [])) (Tr.br (decide (((xsh0.getD i6.toNat []).headD C.pnil).i < 1)) (Tr.leaf (R.x (x198_0x0 nlh0 th0 xsh0 ih0))) (Tr.chk (decide (0 ≤ i6)) (Tr.chk true (Tr.chk (decide (i6.toNat < xsh0.length)) (Tr.chk (shOk [Sk.int IntKind.i64] (xsh0.getD i6.toNat [])) (Tr.br (decide (n ≤ ((xsh0.getD i6.toNat []).headD C.pnil).i)) (Tr.leaf (R.x (x198_0x0 nlh0 th0 xsh0 ih0))) (Tr.leaf (R.s (s198_0 nl t xs n (IntKind.i64.wrap (i6 + 1)) nlh0 th0 xsh0 ih0))))))))))))) (Tr.leaf (R.x (x198_0x1 nl t xs n i6 nlh0 th0 xsh0 ih0)))) := by kernel_rfl
theorem k198_0x0 (nlh0 : Option Bool) (th0 : Bool) (xsh0 : List (List C)) (ih0 : Int) : p198.fkx 0 (x198_0x0 nlh0 th0 xsh0 ih0) = (Tr.leaf (R.out [V.c (C.int IntKind.i64 17)] [])) := by kernel_rfl
theorem t198_1 (nl : Option Bool) (t : Bool) (xs : List (List C)) (nlh0 : Option Bool) (th0 : Bool) (xsh0 : List (List C)) (ih0 : Int) (i7 : Int) : p198.lts b198_1 (s198_1 nl t xs nlh0 th0 xsh0 ih0 i7) = (Tr.br (decide (i7 < (↑xsh0.length : Int))) (Tr.chk (decide (0 ≤ i7)) (Tr.chk true (Tr.chk (decide (i7.toNat < xsh0.length)) (Tr.chk (shOk [Sk.int IntKind.i64] (xsh0.getD i7.toNat [])) (Tr.chk (decide (0 ≤ IntKind.i64.wrap (((xsh0.getD i7.toNat []).headD C.pnil).i - 1))) (Tr.chk true (Tr.chk (decide ((IntKind.i64.wrap (((xsh0.getD i7.toNat []).headD C.pnil).i - 1)).toNat < xs.length)) (Tr.chk (shOk [Sk.sl 1, Sk.int IntKind.i64] (xs.getD (IntKind.i64.wrap (((xsh0.getD i7.toNat []).headD C.pnil).i - 1)).toNat [])) (Tr.br (decide (ih0 ≤ ((xs.getD (IntKind.i64.wrap (((xsh0.getD i7.toNat []).headD C.pnil).i - 1)).toNat []).tail.headD C.pnil).i)) (Tr.leaf (R.x (x198_1x0 nlh0 th0 xsh0 ih0))) (Tr.leaf (R.s (s198_1 nl t xs nlh0 th0 xsh0 ih0 (IntKind.i64.wrap (i7 + 1)))))))))))))) (Tr.leaf (R.x (x198_1x1 nl t xs nlh0 th0 xsh0 ih0 i7)))) := by kernel_rfl
theorem k198_1x0 (nlh0 : Option Bool) (th0 : Bool) (xsh0 : List (List C)) (ih0 : Int) : p198.fkx 1 (x198_1x0 nlh0 th0 xsh0 ih0) = (Tr.leaf (R.out [V.c (C.int IntKind.i64 14)] [])) := by kernel_rfl
theorem k198_1x1 (nl : Option Bool) (t : Bool) (xs : List (List C)) (nlh0 : Option Bool) (th0 : Bool) (xsh0 : List (List C)) (ih0 : Int) (i7 : Int) : p198.fkx 1 (x198_1x1 nl t xs nlh0 th0 xsh0 ih0 i7) = (Tr.leaf (R.out [V.c (C.int IntKind.i64 0)] [])) := by kernel_rfl
theorem k198_0x1 (nl : Option Bool) (t : Bool) (xs : List (List C)) (n : Int) (i6 : Int) (nlh0 : Option Bool) (th0 : Bool) (xsh0 : List (List C)) (ih0 : Int) : p198.fkx 0 (x198_0x1 nl t xs n i6 nlh0 th0 xsh0 ih0) = (Tr.ls 1 (s198_1 nl t xs nlh0 th0 xsh0 ih0 (0))) := by kernel_rfl
theorem t198 (nl : Option Bool) (t : Bool) (xs : List (List C)) (n : Int) : p198.ft ([V.c (C.sl 2 nl t xs), V.i n]) ([]) = (Tr.chk (decide (0 ≤ IntKind.i64.wrap (n - 1))) (Tr.chk true (Tr.chk (decide ((IntKind.i64.wrap (n - 1)).toNat < xs.length)) (Tr.chk (shOk [Sk.sl 1, Sk.int IntKind.i64] (xs.getD (IntKind.i64.wrap (n - 1)).toNat [])) (Tr.br (decide (((xs.getD (IntKind.i64.wrap (n - 1)).toNat []).tail.headD C.pnil).i < 0)) (Tr.leaf (R.out [V.c (C.int IntKind.i64 2)] [])) (Tr.br (decide (1099511627776 < ((xs.getD (IntKind.i64.wrap (n - 1)).toNat []).tail.headD C.pnil).i)) (Tr.leaf (R.out [V.c (C.int IntKind.i64 2)] [])) (Tr.br (decide (2 < (↑((xs.getD (IntKind.i64.wrap (n - 1)).toNat []).headD C.pnil).xs.length : Int))) (Tr.leaf (R.out [V.c (C.int IntKind.i64 2)] [])) (Tr.br ((↑((xs.getD (IntKind.i64.wrap (n - 1)).toNat []).headD C.pnil).xs.length : Int) == 2) (Tr.chk true (Tr.chk true (Tr.chk (decide (Int.toNat 0 < ((xs.getD (IntKind.i64.wrap (n - 1)).toNat []).headD C.pnil).xs.length)) (Tr.chk (shOk [Sk.int IntKind.i64] (((xs.getD (IntKind.i64.wrap (n - 1)).toNat []).headD C.pnil).xs.getD (Int.toNat 0) [])) (Tr.chk true (Tr.chk true (Tr.chk (decide (Int.toNat 1 < ((xs.getD (IntKind.i64.wrap (n - 1)).toNat []).headD C.pnil).xs.length)) (Tr.chk (shOk [Sk.int IntKind.i64] (((xs.getD (IntKind.i64.wrap (n - 1)).toNat []).headD C.pnil).xs.getD (Int.toNat 1) [])) (Tr.br (((((xs.getD (IntKind.i64.wrap (n - 1)).toNat []).headD C.pnil).xs.getD (Int.toNat 0) []).headD C.pnil).i == ((((xs.getD (IntKind.i64.wrap (n - 1)).toNat []).headD C.pnil).xs.getD (Int.toNat 1) []).headD C.pnil).i) (Tr.leaf (R.out [V.c (C.int IntKind.i64 2)] [])) (Tr.ls 0 (s198_0 nl t xs n (0) (none) false (((xs.getD (IntKind.i64.wrap (n - 1)).toNat []).headD C.pnil).xs) (((xs.getD (IntKind.i64.wrap (n - 1)).toNat []).tail.headD C.pnil).i)))))))))))) (Tr.ls 0 (s198_0 nl t xs n (0) (none) false (((xs.getD (IntKind.i64.wrap (n - 1)).toNat []).headD C.pnil).xs) (((xs.getD (IntKind.i64.wrap (n - 1)).toNat []).tail.headD C.pnil).i))))))))))) := by kernel_rfl
noncomputable abbrev p177 : Par := par E sh (ctOf [(198, s198)]) 177 1 0
abbrev s177_0 (nl : Option Bool) (t : Bool) (xs : List (List C)) (i4 : Int) : Fr × Hp := ([(0, V.c (C.sl 2 nl t xs)), (4, V.c (C.int IntKind.i64 i4))], [])
noncomputable abbrev b177_0 : Code := loopAt (codeOf p177.E p177.g) 0
abbrev x177_0x0 (i4 : Int) (i3 : Int) : Ex × Fr × Hp := (Ex.ret, [(2, V.c (C.int IntKind.i64 i4)), (3, V.c (C.int IntKind.i64 i3))], [])
abbrev x177_0x1 (nl : Option Bool) (t : Bool) (xs : List (List C)) (i4 : Int) : Ex × Fr × Hp := (Ex.exit 0, [(0, V.c (C.sl 2 nl t xs)), (4, V.c (C.int IntKind.i64 i4)), (12, V.c (C.bool false))], [])
theorem t177_0 (nl : Option Bool) (t : Bool) (xs : List (List C)) (i4 : Int) : p177.lts b177_0 (s177_0 nl t xs i4) = (Tr.br (decide (i4 ≤ (↑xs.length : Int))) (Tr.chk (isRepo xs) (Tr.chk (smallB (toRepo xs)) (Tr.chk (!noNum xs.length i4) (Tr.chk (decide (xs.length ≤ 4294967296)) (Tr.br (faultG (List.take (i4 - 1).toNat (toRepo xs)) ((toRepo xs).getD (i4 - 1).toNat ([], 0)) != 0) (Tr.leaf (R.x (x177_0x0 i4 (faultG (List.take (i4 - 1).toNat (toRepo xs)) ((toRepo xs).getD (i4 - 1).toNat ([], 0)))))) (Tr.leaf (R.s (s177_0 nl t xs (IntKind.i64.wrap (i4 + 1)))))))))) (Tr.leaf (R.x (x177_0x1 nl t xs i4)))) := by kernel_rfl
theorem k177_0x0 (i4 : Int) (i3 : Int) : p177.fkx 0 (x177_0x0 i4 i3) = (Tr.leaf (R.out [V.c (C.int IntKind.i64 i4), V.c (C.int IntKind.i64 i3)] [])) := by kernel_rfl
theorem k177_0x1 (nl : Option Bool) (t : Bool) (xs : List (List C)) (i4 : Int) : p177.fkx 0 (x177_0x1 nl t xs i4) = (Tr.leaf (R.out [V.c (C.int IntKind.i64 (↑xs.length : Int)), V.c (C.int IntKind.i64 0)] [])) := by kernel_rfl
theorem t177 (nl : Option Bool) (t : Bool) (xs : List (List C)) : p177.ft ([V.c (C.sl 2 nl t xs)]) ([]) = (Tr.br (decide (500 < (↑xs.length : Int))) (Tr.leaf (R.out [V.c (C.int IntKind.i64 500), V.c (C.int IntKind.i64 5)] [])) (Tr.ls 0 (s177_0 nl t xs (1)))) := by kernel_rfl
noncomputable abbrev p141 : Par := par E sh (ctOf [(177, s177)]) 141 1 0
theorem t141 (nl : Option Bool) (t : Bool) (xs : List (List C)) : p141.ft ([V.c (C.sl 2 nl t xs)]) ([]) = (Tr.chk (isRepo xs) (Tr.chk (smallB (toRepo xs)) (Tr.leaf (R.out [V.c (C.bool ((checkG (toRepo xs)).snd == 0))] [])))) := by kernel_rfl
noncomputable abbrev p106 : Par := par E sh (ctOf [(141, s141)]) 106 2 0
theorem t106 (nl : Option Bool) (t : Bool) (xs : List (List C)) (n : Int) : p106.ft ([V.c (C.sl 2 nl t xs), V.i n]) ([]) = (Tr.br (decide (1 ≤ n)) (Tr.br (decide (n ≤ (↑xs.length : Int))) (Tr.chk (isRepo xs) (Tr.chk (smallB (toRepo xs)) (Tr.leaf (R.out [V.c (C.bool (right (toRepo xs)))] [])))) (Tr.leaf (R.out [V.c (C.bool false)] []))) (Tr.leaf (R.out [V.c (C.bool false)] []))) := by kernel_rfl
noncomputable abbrev p64 : Par := par E sh (ctOf [(106, s106)]) 64 2 0
abbrev s64_0 (nl : Option Bool) (t : Bool) (xs : List (List C)) (n : Int) (n5 : Nat) (ys0 : List (List C)) : Fr × Hp := ([(0, V.c (C.sl 2 nl t xs)), (1, V.c (C.int IntKind.i64 n)), (5, V.buf 0 0 0 n5)], [O.mem 1 0 ys0])
noncomputable abbrev b64_0 : Code := loopAt (codeOf p64.E p64.g) 0
abbrev x64_0x0 (nl : Option Bool) (t : Bool) (xs : List (List C)) (n : Int) (n5 : Nat) (ys0 : List (List C)) : Ex × Fr × Hp := (Ex.exit 0, [(0, V.c (C.sl 2 nl t xs)), (1, V.c (C.int IntKind.i64 n)), (5, V.buf 0 0 0 n5), (26, V.c (C.bool false))], [O.mem 1 0 ys0])
theorem t64_0 (nl : Option Bool) (t : Bool) (xs : List (List C)) (n : Int) (n5 : Nat) (ys0 : List (List C)) : p64.lts b64_0 (s64_0 nl t xs n n5 ys0) = (Tr.chk (decide (0 ≤ IntKind.i64.wrap (n - 1))) (Tr.chk true (Tr.chk (decide ((IntKind.i64.wrap (n - 1)).toNat < xs.length)) (Tr.chk (shOk [Sk.sl 1, Sk.int IntKind.i64] (xs.getD (IntKind.i64.wrap (n - 1)).toNat [])) (Tr.br (decide (0 < (↑((xs.getD (IntKind.i64.wrap (n - 1)).toNat []).headD C.pnil).xs.length : Int))) (Tr.chk true (Tr.br (decide ((↑n5 : Int) < (↑xs.length : Int))) (Tr.chk (decide (0 ≤ IntKind.i64.wrap (n - 1))) (Tr.chk true (Tr.chk (decide ((IntKind.i64.wrap (n - 1)).toNat < xs.length)) (Tr.chk (shOk [Sk.sl 1, Sk.int IntKind.i64] (xs.getD (IntKind.i64.wrap (n - 1)).toNat [])) (Tr.chk true (Tr.chk true (Tr.chk (decide (Int.toNat 0 < ((xs.getD (IntKind.i64.wrap (n - 1)).toNat []).headD C.pnil).xs.length)) (Tr.chk (shOk [Sk.int IntKind.i64] (((xs.getD (IntKind.i64.wrap (n - 1)).toNat []).headD C.pnil).xs.getD (Int.toNat 0) [])) (Tr.chk true (Tr.chk true (Tr.chk (decide (n5 + 1 < 4294967296)) (Tr.chk true (Tr.leaf (R.s (s64_0 nl t xs (((((xs.getD (IntKind.i64.wrap (n - 1)).toNat []).headD C.pnil).xs.getD (Int.toNat 0) []).headD C.pnil).i) (n5 + 1) (List.take n5 ys0 ++ [[(Sk.int IntKind.i64).mk ((((xs.getD (IntKind.i64.wrap (n - 1)).toNat []).headD C.pnil).xs.getD (Int.toNat 0) []).headD C.pnil)]])))))))))))))))) (Tr.leaf (R.x (x64_0x0 nl t xs n n5 ys0))))) (Tr.leaf (R.x (x64_0x0 nl t xs n n5 ys0)))))))) := by kernel_rfl
theorem k64_0x0 (nl : Option Bool) (t : Bool) (xs : List (List C)) (n : Int) (n5 : Nat) (ys0 : List (List C)) : p64.fkx 0 (x64_0x0 nl t xs n n5 ys0) = (Tr.leaf (R.out [V.c (C.sl 1 none false (List.take n5 ys0))] [])) := by kernel_rfl
theorem t64 (nl : Option Bool) (t : Bool) (xs : List (List C)) (n : Int) : p64.ft ([V.c (C.sl 2 nl t xs), V.i n]) ([]) = (Tr.chk (isRepo xs) (Tr.chk (smallB (toRepo xs)) (Tr.br (!hasG (toRepo xs) [n]) (Tr.leaf (R.out [V.c (C.sl 1 none false [])] [])) (Tr.ls 0 (s64_0 nl t xs n (1) ([[C.int IntKind.i64 n]])))))) := by kernel_rfl
noncomputable abbrev p25 : Par := par E sh (ctOf []) 25 2 0
abbrev s25_0 (nl : Option Bool) (t : Bool) (xs : List (List C)) (nl2 : Option Bool) (t2 : Bool) (ys : List (List C)) (i5 : Int) : Fr × Hp := ([(0, V.c (C.sl 1 nl t xs)), (1, V.c (C.sl 1 nl2 t2 ys)), (5, V.c (C.int IntKind.i64 i5))], [])
noncomputable abbrev b25_0 : Code := loopAt (codeOf p25.E p25.g) 0
abbrev x25_0x0 : Ex × Fr × Hp := (Ex.ret, [(4, V.c (C.bool false))], [])
abbrev x25_0x1 (nl : Option Bool) (t : Bool) (xs : List (List C)) (nl2 : Option Bool) (t2 : Bool) (ys : List (List C)) (i5 : Int) : Ex × Fr × Hp := (Ex.exit 0, [(0, V.c (C.sl 1 nl t xs)), (1, V.c (C.sl 1 nl2 t2 ys)), (5, V.c (C.int IntKind.i64 i5)), (14, V.c (C.bool false))], [])
theorem t25_0 (nl : Option Bool) (t : Bool) (xs : List (List C)) (nl2 : Option Bool) (t2 : Bool) (ys : List (List C)) (i5 : Int) : p25.lts b25_0 (s25_0 nl t xs nl2 t2 ys i5) = (Tr.br (decide (i5 < (↑xs.length : Int))) (Tr.chk (decide (0 ≤ i5)) (Tr.chk true (Tr.chk (decide (i5.toNat < xs.length)) (Tr.chk (shOk [Sk.int IntKind.i64] (xs.getD i5.toNat [])) (Tr.chk (decide (0 ≤ i5)) (Tr.chk true (Tr.chk (decide (i5.toNat < ys.length)) (Tr.chk (shOk [Sk.int IntKind.i64] (ys.getD i5.toNat [])) (Tr.br (((xs.getD i5.toNat []).headD C.pnil).i != ((ys.getD i5.toNat []).headD C.pnil).i) (Tr.leaf (R.x x25_0x0)) (Tr.leaf (R.s (s25_0 nl t xs nl2 t2 ys (IntKind.i64.wrap (i5 + 1)))))))))))))) (Tr.leaf (R.x (x25_0x1 nl t xs nl2 t2 ys i5)))) := by kernel_rfl
theorem k25_0x0 : p25.fkx 0 x25_0x0 = (Tr.leaf (R.out [V.c (C.bool false)] [])) := by kernel_rfl
theorem k25_0x1 (nl : Option Bool) (t : Bool) (xs : List (List C)) (nl2 : Option Bool) (t2 : Bool) (ys : List (List C)) (i5 : Int) : p25.fkx 0 (x25_0x1 nl t xs nl2 t2 ys i5) = (Tr.leaf (R.out [V.c (C.bool true)] [])) := by kernel_rfl
theorem t25 (nl : Option Bool) (t : Bool) (xs : List (List C)) (nl2 : Option Bool) (t2 : Bool) (ys : List (List C)) : p25.ft ([V.c (C.sl 1 nl t xs), V.c (C.sl 1 nl2 t2 ys)]) ([]) = (Tr.br ((↑xs.length : Int) != (↑ys.length : Int)) (Tr.leaf (R.out [V.c (C.bool false)] [])) (Tr.ls 0 (s25_0 nl t xs nl2 t2 ys (0)))) := by kernel_rfl
end Go.Proofs.YtbilmkcdhodenaaDoor.Gr

end

/-
  Chapter 12 (graph): Bases; the reference's Check, is, Gens, Gen.
-/
section
namespace Go.Proofs.YtbilmkcdhodenaaDoor.Gr
open Go Go.Ev
/-! ## the reference: fault, Check -/
theorem loop43_0 (l : List Cm) (nl : Option Bool) (t : Bool) (n : Int) (hn : 1 ≤ n) (ps : List Int) (hps : ps.length ≤ 2) (st : Int) :
    p198.Loops b198_0 (s198_0 nl t (repo l) n 0 none false (ints ps) st) (cond (ps.any (noNum (n - 1).toNat)) (x198_0x0 none false (ints ps) st) (x198_0x1 nl t (repo l) n ps.length none false (ints ps) st)) := by
  exact loop_list (p := p198) ctOf_nil (b := b198_0) ps (fun k (_ : Unit) => s198_0 nl t (repo l) n k none false (ints ps) st) (fun _ _ => True)
    (fun r _ => cond (r.any (noNum (n - 1).toNat)) (x198_0x0 none false (ints ps) st) (x198_0x1 nl t (repo l) n ps.length none false (ints ps) st))
    (by
      intro k _ p hk hlt _
      have hw := wrap_same (n := (k : Int) + 1) (by omega) (by omega)
      simp only [t198_0, ld_br, ld_chk', ld_leaf, fd_br, fd_chk', fd_leaf, decide_true, decide_eq_true_eq, if_true, Int.toNat_natCast, Int.natCast_nonneg, Int.ofNat_lt, Bool.false_eq_true, if_false, bne_iff_ne, beq_iff_eq, ne_eq, not_true_eq_false, not_false_eq_true, Bool.not_eq_true', decide_eq_false_iff_not, reduceCtorEq, repo_length, ints_length, ec_ok, ec_par, ec_stamp, ei_ok, ei_i, isRepo_repo, isInts_ints, toRepo_repo, toInts_ints, repo_take, repo_drop, ints_take, ints_drop, ints_append, mk_headD, ei_len, ei_take, Nat.zero_add, Nat.le_refl, List.take_length, ints_snoc, ints_snoc', hlt, ints_at hk, hw, List.any_cons]
      by_cases h1 : p < 1
      · have hb : noNum (n - 1).toNat p = true := by simp [noNum, h1]
        simp only [hb, Bool.true_or, cond_true, if_pos h1]
        exact .inr ⟨by simp, trivial⟩
      · rw [if_neg h1]
        by_cases h2 : n ≤ p
        · have hb : noNum (n - 1).toNat p = true := by simp [noNum]; omega
          simp only [hb, Bool.true_or, cond_true, if_pos h2]
          exact .inr ⟨by simp, trivial⟩
        · have h3 : noNum (n - 1).toNat p = false := by rw [noNum_iff]; omega
          rw [if_neg h2]
          exact .inl ⟨(), trivial, by rw [h3, Bool.false_or], rfl⟩)
    (by
      intro _ _
      simp only [t198_0, ld_br, ld_chk', ld_leaf, fd_br, fd_chk', fd_leaf, decide_true, decide_eq_true_eq, if_true, Int.toNat_natCast, Int.natCast_nonneg, Int.ofNat_lt, Bool.false_eq_true, if_false, bne_iff_ne, beq_iff_eq, ne_eq, not_true_eq_false, not_false_eq_true, Bool.not_eq_true', decide_eq_false_iff_not, reduceCtorEq, repo_length, ints_length, ec_ok, ec_par, ec_stamp, ei_ok, ei_i, isRepo_repo, isInts_ints, toRepo_repo, toInts_ints, repo_take, repo_drop, ints_take, ints_drop, ints_append, mk_headD, ei_len, ei_take, Nat.zero_add, Nat.le_refl, List.take_length, ints_snoc, ints_snoc', Int.lt_irrefl, List.any_nil]
      exact ⟨by simp, rfl⟩) () trivial
theorem loop43_1 (l : List Cm) (nl : Option Bool) (t : Bool) (m : Nat) (hm : m ≤ l.length) (hl : l.length ≤ 4294967296) (ps : List Int) (hps : ps.length ≤ 2) (hp : ∀ p ∈ ps, 1 ≤ p ∧ p ≤ m) (st : Int) :
    p198.Loops b198_1 (s198_1 nl t (repo l) none false (ints ps) st 0) (cond (ps.any (lateFor (l.take m) st)) (x198_1x0 none false (ints ps) st) (x198_1x1 nl t (repo l) none false (ints ps) st ps.length)) := by
  exact loop_list (p := p198) ctOf_nil (b := b198_1) ps (fun k (_ : Unit) => s198_1 nl t (repo l) none false (ints ps) st k) (fun _ _ => True)
    (fun r _ => cond (r.any (lateFor (l.take m) st)) (x198_1x0 none false (ints ps) st) (x198_1x1 nl t (repo l) none false (ints ps) st ps.length))
    (by
      intro k _ p hk hlt _
      have hq := hp p (List.mem_of_getElem? hk)
      have hw := wrap_same (n := (k : Int) + 1) (by omega) (by omega)
      have hw2 := wrap_same (n := p - 1) (by omega) (by omega)
      have hlt2 : (p - 1).toNat < l.length := by omega
      have hc : l[(p - 1).toNat]? = some l[(p - 1).toNat] := List.getElem?_eq_getElem hlt2
      have hc2 : (l.take m)[(p - 1).toNat]? = some l[(p - 1).toNat] := by rw [List.getElem?_take, if_pos (by omega), hc]
      simp only [t198_1, ld_br, ld_chk', ld_leaf, fd_br, fd_chk', fd_leaf, decide_true, decide_eq_true_eq, if_true, Int.toNat_natCast, Int.natCast_nonneg, Int.ofNat_lt, Bool.false_eq_true, if_false, bne_iff_ne, beq_iff_eq, ne_eq, not_true_eq_false, not_false_eq_true, Bool.not_eq_true', decide_eq_false_iff_not, reduceCtorEq, repo_length, ints_length, ec_ok, ec_par, ec_stamp, ei_ok, ei_i, isRepo_repo, isInts_ints, toRepo_repo, toInts_ints, repo_take, repo_drop, ints_take, ints_drop, ints_append, mk_headD, ei_len, ei_take, Nat.zero_add, Nat.le_refl, List.take_length, ints_snoc, ints_snoc', hlt, ints_at hk, hw, hw2, hlt2, repo_at hc, List.any_cons, lateFor, getD_of hc2]
      simp (disch := omega) only [if_pos]
      by_cases h2 : st ≤ l[(p - 1).toNat].2
      · simp only [h2, decide_true, Bool.true_or, cond_true, if_true]
        exact .inr ⟨by simp, trivial⟩
      · rw [if_neg h2]
        refine .inl ⟨(), trivial, ?_, rfl⟩
        simp only [h2, decide_false, Bool.false_or])
    (by
      intro _ _
      simp only [t198_1, ld_br, ld_chk', ld_leaf, fd_br, fd_chk', fd_leaf, decide_true, decide_eq_true_eq, if_true, Int.toNat_natCast, Int.natCast_nonneg, Int.ofNat_lt, Bool.false_eq_true, if_false, bne_iff_ne, beq_iff_eq, ne_eq, not_true_eq_false, not_false_eq_true, Bool.not_eq_true', decide_eq_false_iff_not, reduceCtorEq, repo_length, ints_length, ec_ok, ec_par, ec_stamp, ei_ok, ei_i, isRepo_repo, isInts_ints, toRepo_repo, toInts_ints, repo_take, repo_drop, ints_take, ints_drop, ints_append, mk_headD, ei_len, ei_take, Nat.zero_add, Nat.le_refl, List.take_length, ints_snoc, ints_snoc', Int.lt_irrefl, List.any_nil]
      exact ⟨by simp, rfl⟩) () trivial

theorem f198 (l : List Cm) (nl : Option Bool) (t : Bool) (n : Int) (hn : noNum l.length n = false) (hl : l.length ≤ 4294967296) :
    call E 198 [.c (.sl 2 nl t (repo l)), V.i n] [] = some ([V.i (faultG (l.take (n - 1).toNat) (l.getD (n - 1).toNat ([], 0)))], []) := by
  refine call_of (E := E) (sh := sh) (ct := ctOf []) (na := 2) (m := 0) ctOf_nil rfl rfl rfl rfl rfl rfl ?_
  have hn := noNum_iff.1 hn
  have hw := wrap_same (n := n - 1) (by omega) (by omega)
  have hlt : (n - 1).toNat < l.length := by omega
  obtain ⟨⟨ps, st⟩, hc⟩ : ∃ c, l[(n - 1).toNat]? = some c := ⟨_, List.getElem?_eq_getElem hlt⟩
  simp only [t198, ld_br, ld_chk', ld_leaf, fd_br, fd_chk', fd_leaf, decide_true, decide_eq_true_eq, if_true, Int.toNat_natCast, Int.natCast_nonneg, Int.ofNat_lt, Bool.false_eq_true, if_false, bne_iff_ne, beq_iff_eq, ne_eq, not_true_eq_false, not_false_eq_true, Bool.not_eq_true', decide_eq_false_iff_not, reduceCtorEq, repo_length, ints_length, ec_ok, ec_par, ec_stamp, ei_ok, ei_i, isRepo_repo, isInts_ints, toRepo_repo, toInts_ints, repo_take, repo_drop, ints_take, ints_drop, ints_append, mk_headD, ei_len, ei_take, Nat.zero_add, Nat.le_refl, List.take_length, ints_snoc, ints_snoc', hw, hlt, repo_at hc, getD_of hc]
  simp (disch := omega) only [if_pos]
  have hlen : (l.take (n - 1).toNat).length = (n - 1).toNat := by rw [List.length_take]; omega
  unfold faultG
  simp only [hlen]
  by_cases h1 : st < 0
  · rw [if_pos h1, if_pos (.inl h1)]
  rw [if_neg h1]
  by_cases h2 : 1099511627776 < st
  · rw [if_pos h2, if_pos (.inr (.inl h2))]
  rw [if_neg h2]
  by_cases h3 : 2 < ps.length
  · rw [if_pos (by omega), if_pos (.inr (.inr (.inl h3)))]
  rw [if_neg (by omega)]
  have rest : p198.fd (Tr.ls 0 (s198_0 nl t (repo l) n 0 none false (ints ps) st)) = some (R.out [V.i (if (ps.any (noNum (n - 1).toNat)) = true then 17 else if (ps.any (lateFor (l.take (n - 1).toNat) st)) = true then 14 else 0)] []) := by
    have hl0 := loop43_0 l nl t n (by omega) ps (by omega) st
    by_cases h5 : ps.any (noNum (n - 1).toNat) = true
    · rw [h5, cond_true] at hl0
      rw [if_pos h5]
      exact fd_ls (p := p198) ctOf_nil (by kernel_rfl) hl0 (by rw [k198_0x0, fd_leaf]) rfl
    · rw [Bool.not_eq_true _ |>.mp h5, cond_false] at hl0
      rw [if_neg h5]
      have hp : ∀ p ∈ ps, 1 ≤ p ∧ p ≤ (n - 1).toNat := fun p hp => noNum_iff.1 (by
        simp only [Bool.not_eq_true, List.any_eq_false] at h5
        simpa using h5 p hp)
      refine fd_ls (p := p198) ctOf_nil (by kernel_rfl) hl0 ?_ rfl
      rw [k198_0x1]
      have hl1 := loop43_1 l nl t (n - 1).toNat (by omega) hl ps (by omega) hp st
      by_cases h6 : ps.any (lateFor (l.take (n - 1).toNat) st) = true
      · rw [h6, cond_true] at hl1
        rw [if_pos h6]
        exact fd_ls (p := p198) ctOf_nil (by kernel_rfl) hl1 (by rw [k198_1x0, fd_leaf]) rfl
      · rw [Bool.not_eq_true _ |>.mp h6, cond_false] at hl1
        rw [if_neg h6]
        exact fd_ls (p := p198) ctOf_nil (by kernel_rfl) hl1 (by rw [k198_1x1, fd_leaf]) rfl
  by_cases h4 : ps.length = 2
  · rw [if_pos (by omega)]
    match ps, h4 with
    | [a, b], _ =>
      have e1 : (ints [a, b]).getD (Int.toNat 0) [] = ei a := rfl
      have e2 : (ints [a, b]).getD (Int.toNat 1) [] = ei b := rfl
      have e3 : Int.toNat 0 < [a, b].length := by simp
      have e4 : Int.toNat 1 < [a, b].length := by simp
      simp only [e1, e2, e3, e4, ld_br, ld_chk', ld_leaf, fd_br, fd_chk', fd_leaf, decide_true, decide_eq_true_eq, if_true, Int.toNat_natCast, Int.natCast_nonneg, Int.ofNat_lt, Bool.false_eq_true, if_false, bne_iff_ne, beq_iff_eq, ne_eq, not_true_eq_false, not_false_eq_true, Bool.not_eq_true', decide_eq_false_iff_not, reduceCtorEq, repo_length, ints_length, ec_ok, ec_par, ec_stamp, ei_ok, ei_i, isRepo_repo, isInts_ints, toRepo_repo, toInts_ints, repo_take, repo_drop, ints_take, ints_drop, ints_append, mk_headD, ei_len, ei_take, Nat.zero_add, Nat.le_refl, List.take_length, ints_snoc, ints_snoc']
      by_cases h5 : a = b
      · rw [if_pos h5, if_pos (by simp [h5])]
      · rw [if_neg h5, if_neg (by simp [h5, h1, h2])]
        exact rest
  · rw [if_neg (by omega), if_neg (by simp [h1, h2, h3, h4])]
    exact rest
theorem s198_ok : CSpecOk E 198 s198 := by
  intro a h cs vals h' he hc
  unfold s198 at he
  split at he <;> simp only [Option.some.injEq, Prod.mk.injEq, reduceCtorEq] at he
  obtain ⟨rfl, rfl, rfl⟩ := he
  simp only [allT, Bool.and_eq_true, and_true, decide_eq_true_eq, Bool.not_eq_true'] at hc
  rename_i nl t xs n
  have := f198 (toRepo xs) nl t n (by rw [toRepo_length]; exact hc.2.2.1) (by rw [toRepo_length]; exact hc.2.2.2)
  rwa [← repo_of hc.1] at this

theorem checkFrom_fst {l : List Cm} : ∀ {n i : Nat}, (checkFrom l n i).2 = 0 → (checkFrom l n i).1 = l.length
  | 0, i, _ => rfl
  | n + 1, i, h => by
    simp only [checkFrom] at h ⊢
    split
    · rename_i h1
      rw [if_pos h1] at h
      exact checkFrom_fst h
    · rename_i h1
      rw [if_neg h1] at h
      exact absurd h h1

theorem f177 (l : List Cm) (nl : Option Bool) (t : Bool) (hs : smallB l = true) : call E 177 [.c (.sl 2 nl t (repo l))] [] = some ([V.i (checkG l).1, V.i (checkG l).2], []) := by
  have hct : CT.ok E (ctOf [(198, s198)]) := ctOf_cons s198_ok ctOf_nil
  refine call_of (E := E) (sh := sh) (ct := ctOf [(198, s198)]) (na := 1) (m := 0) hct rfl rfl rfl rfl rfl rfl ?_
  simp only [t177, ld_br, ld_chk', ld_leaf, fd_br, fd_chk', fd_leaf, decide_true, decide_eq_true_eq, if_true, Int.toNat_natCast, Int.natCast_nonneg, Int.ofNat_lt, Bool.false_eq_true, if_false, bne_iff_ne, beq_iff_eq, ne_eq, not_true_eq_false, not_false_eq_true, Bool.not_eq_true', decide_eq_false_iff_not, reduceCtorEq, repo_length, ints_length, ec_ok, ec_par, ec_stamp, ei_ok, ei_i, isRepo_repo, isInts_ints, toRepo_repo, toInts_ints, repo_take, repo_drop, ints_take, ints_drop, ints_append, mk_headD, ei_len, ei_take, Nat.zero_add, Nat.le_refl, List.take_length, ints_snoc, ints_snoc']
  unfold checkG
  by_cases h : 500 < l.length
  · rw [if_pos (by omega), if_pos h]
  · rw [if_neg (by omega), if_neg h]
    have hloop := loop_list (p := p177) hct (b := b177_0) l (fun k (_ : Unit) => s177_0 nl t (repo l) ((k : Int) + 1)) (fun _ _ => True)
      (fun r _ => if (checkFrom l r.length (l.length - r.length)).2 = 0 then x177_0x1 nl t (repo l) ((l.length : Int) + 1)
        else x177_0x0 (checkFrom l r.length (l.length - r.length)).1 (checkFrom l r.length (l.length - r.length)).2)
      (by
        intro k _ c hc hk _
        have hw := wrap_same (n := (k : Int) + 1 + 1) (by omega) (by omega)
        have e1 : (c :: l.drop (k + 1)).length = (l.length - (k + 1)) + 1 := by simp
        have e2 : l.length - (l.length - (k + 1) + 1) = k := by omega
        have e3 : (l.drop (k + 1)).length = l.length - (k + 1) := by simp
        have e4 : l.length - (l.length - (k + 1)) = k + 1 := by omega
        have hnn : noNum l.length ((k : Int) + 1) = false := noNum_iff.2 (by omega)
        rw [e1, e2, e3, e4]
        simp only [t177_0, ld_br, ld_chk', ld_leaf, fd_br, fd_chk', fd_leaf, decide_true, decide_eq_true_eq, if_true, Int.toNat_natCast, Int.natCast_nonneg, Int.ofNat_lt, Bool.false_eq_true, if_false, bne_iff_ne, beq_iff_eq, ne_eq, not_true_eq_false, not_false_eq_true, Bool.not_eq_true', decide_eq_false_iff_not, reduceCtorEq, repo_length, ints_length, ec_ok, ec_par, ec_stamp, ei_ok, ei_i, isRepo_repo, isInts_ints, toRepo_repo, toInts_ints, repo_take, repo_drop, ints_take, ints_drop, ints_append, mk_headD, ei_len, ei_take, Nat.zero_add, Nat.le_refl, List.take_length, ints_snoc, ints_snoc', hs, hnn, show ((k : Int) + 1 - 1).toNat = k by omega, hw, checkFrom, getD_of hc]
        simp (disch := omega) only [if_pos]
        by_cases hf : faultG (l.take k) c = 0
        · exact .inl ⟨(), trivial, by rw [if_pos hf], by rw [if_neg (by simp [hf])]; rfl⟩
        · rw [if_neg hf]
          simp only [if_neg hf]
          refine .inr ⟨by simp, ?_⟩
          rw [if_pos hf])
      (by
        intro _ _
        simp only [t177_0, ld_br, ld_chk', ld_leaf, fd_br, fd_chk', fd_leaf, decide_true, decide_eq_true_eq, if_true, Int.toNat_natCast, Int.natCast_nonneg, Int.ofNat_lt, Bool.false_eq_true, if_false, bne_iff_ne, beq_iff_eq, ne_eq, not_true_eq_false, not_false_eq_true, Bool.not_eq_true', decide_eq_false_iff_not, reduceCtorEq, repo_length, ints_length, ec_ok, ec_par, ec_stamp, ei_ok, ei_i, isRepo_repo, isInts_ints, toRepo_repo, toInts_ints, repo_take, repo_drop, ints_take, ints_drop, ints_append, mk_headD, ei_len, ei_take, Nat.zero_add, Nat.le_refl, List.take_length, ints_snoc, ints_snoc', List.length_nil, checkFrom]
        simp (disch := omega) only [if_neg]
        exact ⟨by simp, by simp⟩) () trivial
    rw [Nat.sub_self] at hloop
    by_cases hz : (checkFrom l l.length 0).2 = 0
    · rw [if_pos hz] at hloop
      refine fd_ls (p := p177) hct (by kernel_rfl) hloop ?_ rfl
      rw [k177_0x1, fd_leaf, checkFrom_fst hz, hz, repo_length]
    · rw [if_neg hz] at hloop
      exact fd_ls (p := p177) hct (by kernel_rfl) hloop (by rw [k177_0x0, fd_leaf]) rfl
end Go.Proofs.YtbilmkcdhodenaaDoor.Gr

end


section
namespace Go.Proofs.YtbilmkcdhodenaaDoor.Gr
open Go Go.Ev

noncomputable abbrev p29 : Par := par E sh (ctOf []) 29 2 0
noncomputable abbrev b29 : Code := loopAt (codeOf E 29) 0
theorem t29 (xs : List (List C)) (nl : Option Bool) (t : Bool) (n : Int) : p29.ft [.c (.sl 1 nl t xs), V.i n] [] = Tr.lp 0 [(0, V.c (C.sl 1 nl t xs)), (1, V.c (C.int IntKind.i64 n)), (5, V.c (C.int IntKind.i64 0))] [] := by kernel_rfl
theorem t29_0 (xs : List (List C)) (nl : Option Bool) (t : Bool) (n i : Int) : p29.lt b29 [(0, .c (.sl 1 nl t xs)), (1, V.i n), (5, V.i i)] [] =
 Tr.br (decide (i < ↑xs.length))
  (Tr.chk (decide (0 ≤ i))
    (Tr.chk true
      (Tr.chk (decide (i.toNat < xs.length))
        (Tr.chk (shOk [Sk.int IntKind.i64] (xs.getD i.toNat []))
          (Tr.br (((xs.getD i.toNat []).headD C.pnil).i == n) (Tr.leaf (R.st Ex.ret [(4, V.c (C.bool true))] []))
            (Tr.leaf
              (R.st Ex.nrm
                [(0, V.c (C.sl 1 nl t xs)), (1, V.c (C.int IntKind.i64 n)),
                  (5, V.c (C.int IntKind.i64 (IntKind.i64.wrap (i + 1))))]
                [])))))))
  (Tr.leaf
    (R.st (Ex.exit 0)
      [(0, V.c (C.sl 1 nl t xs)), (1, V.c (C.int IntKind.i64 n)), (5, V.c (C.int IntKind.i64 i)),
        (9, V.c (C.bool false))]
      [])) := by kernel_rfl
theorem k29_0a : p29.fk 0 .ret [(4, V.c (C.bool true))] [] = Tr.leaf (R.out [V.c (C.bool true)] []) := by kernel_rfl
theorem k29_0b (xs : List (List C)) (nl : Option Bool) (t : Bool) (n i : Int) : p29.fk 0 (.exit 0) [(0, .c (.sl 1 nl t xs)), (1, V.i n), (5, V.i i), (9, V.c (C.bool false))] [] = Tr.leaf (R.out [V.c (C.bool false)] []) := by kernel_rfl

theorem f29 (l : List Int) (nl : Option Bool) (t : Bool) (n : Int) (hl : l.length < 4294967296) : call E 29 [.c (.sl 1 nl t (ints l)), V.i n] [] = some ([V.b (l.contains n)], []) := by
  have hct : p29.ct.ok p29.E := ctOf_nil
  have hloop := loop_of (p := p29) hct (b := b29) (fun k : Nat => ([(0, .c (.sl 1 nl t (ints l))), (1, V.i n), (5, V.i k)], [])) (fun k => k ≤ l.length) (fun k => l.length - k)
    (fun k => if (l.drop k).contains n then (.ret, [(4, V.c (C.bool true))], []) else (.exit 0, [(0, .c (.sl 1 nl t (ints l))), (1, V.i n), (5, V.i l.length), (9, V.c (C.bool false))], []))
    (by
      intro k hk
      simp only [t29_0]
      rcases Nat.lt_or_ge k l.length with h | h
      · have hget : l.getD k 0 = l[k] := by simp [List.getD_eq_getElem?_getD, h]
        have hdrop : l.drop k = l[k] :: l.drop (k + 1) := List.drop_eq_getElem_cons h
        have hw := wrap_same (n := (k : Int) + 1) (by omega) (by omega)
        simp only [ld_br, ld_chk, ints_length, Int.toNat_natCast, ints_getD h, ei_ok, ei_i, hget, hw, ld_leaf, h, hdrop, Int.ofNat_lt, decide_true, Int.natCast_nonneg, if_true, List.contains_cons, beq_iff_eq]
        by_cases hx : l[k] = n
        · exact .inr (by simp [hx])
        · refine .inl ⟨k + 1, by omega, by omega, ?_, ?_⟩
          · simp [Ne.symm hx]
          · simp [hx]
      · have : k = l.length := by omega
        subst this
        refine .inr ?_
        simp [ld_br, ld_leaf]) 0 (by omega)
  refine call_of (E := E) (sh := sh) (ct := ctOf []) (na := 2) (m := 0) ctOf_nil rfl rfl rfl rfl rfl rfl ?_
  rw [t29]
  simp only [List.drop_zero] at hloop
  cases h : l.contains n <;> simp only [h, Bool.false_eq_true, if_false, if_true] at hloop
  · exact fd_lp hct (by kernel_rfl) hloop (by rw [k29_0b]; rfl)
  · exact fd_lp hct (by kernel_rfl) hloop (by rw [k29_0a]; rfl)
end Go.Proofs.YtbilmkcdhodenaaDoor.Gr

end

/-
  Chapter 12 (graph): the reference's functions.
-/
section
namespace Go.Proofs.YtbilmkcdhodenaaDoor.Gr
open Go Go.Ev

theorem s177_ok : CSpecOk E 177 s177 := by
  intro a h cs vals h' he hc
  unfold s177 s107 at he
  split at he <;> simp only [Option.some.injEq, Prod.mk.injEq, reduceCtorEq] at he
  obtain ⟨rfl, rfl, rfl⟩ := he
  simp only [allT, Bool.and_eq_true, and_true] at hc
  rename_i nl t xs
  have := f177 (toRepo xs) nl t hc.2
  rwa [← repo_of hc.1] at this
theorem f141 (l : List Cm) (nl : Option Bool) (t : Bool) (hs : smallB l = true) : call E 141 [.c (.sl 2 nl t (repo l))] [] = some ([V.b (right l)], []) := by
  refine call_of (E := E) (sh := sh) (ct := ctOf [(177, s177)]) (na := 1) (m := 0) (ctOf_cons s177_ok ctOf_nil) rfl rfl rfl rfl rfl rfl ?_
  simp only [t141, ld_br, ld_chk', ld_leaf, fd_br, fd_chk', fd_leaf, decide_true, decide_eq_true_eq, if_true, Int.toNat_natCast, Int.natCast_nonneg, Int.ofNat_lt, Bool.false_eq_true, if_false, bne_iff_ne, beq_iff_eq, ne_eq, not_true_eq_false, not_false_eq_true, Bool.not_eq_true', decide_eq_false_iff_not, reduceCtorEq, repo_length, ints_length, ec_ok, ec_par, ec_stamp, ei_ok, ei_i, isRepo_repo, isInts_ints, toRepo_repo, toInts_ints, repo_take, repo_drop, ints_take, ints_drop, ints_append, mk_headD, ei_len, ei_take, Nat.zero_add, Nat.le_refl, List.take_length, ints_snoc, ints_snoc', hs, right]
theorem s141_ok : CSpecOk E 141 s141 := by
  intro a h cs vals h' he hc
  unfold s141 at he
  split at he <;> simp only [Option.some.injEq, Prod.mk.injEq, reduceCtorEq] at he
  obtain ⟨rfl, rfl, rfl⟩ := he
  simp only [allT, Bool.and_eq_true, and_true] at hc
  rename_i nl t xs
  have := f141 (toRepo xs) nl t hc.2
  rwa [← repo_of hc.1] at this
theorem f106 (l : List Cm) (nl : Option Bool) (t : Bool) (n : Int) (hs : smallB l = true) : call E 106 [.c (.sl 2 nl t (repo l)), V.i n] [] = some ([V.b (hasG l [n])], []) := by
  refine call_of (E := E) (sh := sh) (ct := ctOf [(141, s141)]) (na := 2) (m := 0) (ctOf_cons s141_ok ctOf_nil) rfl rfl rfl rfl rfl rfl ?_
  simp only [t106, ld_br, ld_chk', ld_leaf, fd_br, fd_chk', fd_leaf, decide_true, decide_eq_true_eq, if_true, Int.toNat_natCast, Int.natCast_nonneg, Int.ofNat_lt, Bool.false_eq_true, if_false, bne_iff_ne, beq_iff_eq, ne_eq, not_true_eq_false, not_false_eq_true, Bool.not_eq_true', decide_eq_false_iff_not, reduceCtorEq, repo_length, ints_length, ec_ok, ec_par, ec_stamp, ei_ok, ei_i, isRepo_repo, isInts_ints, toRepo_repo, toInts_ints, repo_take, repo_drop, ints_take, ints_drop, ints_append, mk_headD, ei_len, ei_take, Nat.zero_add, Nat.le_refl, List.take_length, ints_snoc, ints_snoc', hs, hasG, List.any_cons, List.any_nil, Bool.or_false]
  by_cases h1 : 1 ≤ n
  · by_cases h2 : n ≤ l.length
    · rw [if_pos h1, if_pos h2, noNum_iff.2 ⟨h1, h2⟩]; simp
    · rw [if_pos h1, if_neg h2]
      have : noNum l.length n = true := by simp [noNum]; omega
      rw [this]; simp
  · rw [if_neg h1]
    have : noNum l.length n = true := by simp [noNum]; omega
    rw [this]; simp
theorem s106_ok : CSpecOk E 106 s106 := by
  intro a h cs vals h' he hc
  unfold s106 at he
  split at he <;> simp only [Option.some.injEq, Prod.mk.injEq, reduceCtorEq] at he
  obtain ⟨rfl, rfl, rfl⟩ := he
  simp only [allT, Bool.and_eq_true, and_true] at hc
  rename_i nl t xs n
  have := f106 (toRepo xs) nl t n hc.2
  rwa [← repo_of hc.1] at this

/-! ## Reaches -/
theorem s29_ok : CSpecOk E 29 s29 := by
  intro a h cs vals h' he hc
  unfold s29 at he
  split at he <;> simp only [Option.some.injEq, Prod.mk.injEq, reduceCtorEq] at he
  obtain ⟨rfl, rfl, rfl⟩ := he
  simp only [allT, Bool.and_eq_true, and_true, decide_eq_true_eq] at hc
  rename_i nl t xs n
  have := f29 (toInts xs) nl t n (by rw [toInts_length]; exact hc.2)
  rwa [← ints_of hc.1] at this
end Go.Proofs.YtbilmkcdhodenaaDoor.Gr

end

/-
  Chapter 12 (graph): the reference's Bases, First, AsOf, Since, Add; Clone, Add.
-/
section
namespace Go.Proofs.YtbilmkcdhodenaaDoor.Gr
open Go Go.Ev
/-! ## First, AsOf -/
def lastFromR (l : List Cm) : Nat → Int → Int
  | 0, n => n
  | k + 1, n => match (l.getD (n - 1).toNat ([], 0)).1 with
    | [] => n
    | p :: _ => lastFromR l k p
theorem f64 (l : List Cm) (nl : Option Bool) (t : Bool) (n : Int) (hs : smallB l = true) : call E 64 [.c (.sl 2 nl t (repo l)), V.i n] [] = some ([.c (.sl 1 none false (ints (firstR l n)))], []) := by
  have hct : CT.ok E (ctOf [(106, s106)]) := ctOf_cons s106_ok ctOf_nil
  refine call_of (E := E) (sh := sh) (ct := ctOf [(106, s106)]) (na := 2) (m := 0) hct rfl rfl rfl rfl rfl rfl ?_
  simp only [t64, ld_br, ld_chk', ld_leaf, fd_br, fd_chk', fd_leaf, decide_true, decide_eq_true_eq, if_true, Int.toNat_natCast, Int.natCast_nonneg, Int.ofNat_lt, Bool.false_eq_true, if_false, bne_iff_ne, beq_iff_eq, ne_eq, not_true_eq_false, not_false_eq_true, Bool.not_eq_true', decide_eq_false_iff_not, reduceCtorEq, repo_length, ints_length, ec_ok, ec_par, ec_stamp, ei_ok, ei_i, isRepo_repo, isInts_ints, toRepo_repo, toInts_ints, repo_take, repo_drop, ints_take, ints_drop, ints_append, mk_headD, ei_len, ei_take, Nat.zero_add, Nat.le_refl, List.take_length, ints_snoc, ints_snoc', hs, firstR]
  cases h : hasG l [n] with
  | false => rfl
  | true =>
    obtain ⟨h1, h2⟩ := has_right h
    have ha := noNum_iff.1 (h2 n (by simp))
    have hl := right_len h1
    simp only [ld_br, ld_chk', ld_leaf, fd_br, fd_chk', fd_leaf, decide_true, decide_eq_true_eq, if_true, Int.toNat_natCast, Int.natCast_nonneg, Int.ofNat_lt, Bool.false_eq_true, if_false, bne_iff_ne, beq_iff_eq, ne_eq, not_true_eq_false, not_false_eq_true, Bool.not_eq_true', decide_eq_false_iff_not, reduceCtorEq]
    have hloop := loops_of (p := p64) hct (b := b64_0) (fun i : Nat × Int × List Int => s64_0 nl t (repo l) i.2.1 i.2.2.length (ints i.2.2)) (fun i => 1 ≤ i.2.1 ∧ i.2.1 ≤ l.length ∧ i.2.2.length + i.1 = l.length) (fun i => i.1)
      (fun i => x64_0x0 nl t (repo l) (lastFromR l i.1 i.2.1) (i.2.2 ++ firstFromR l i.1 i.2.1).length (ints (i.2.2 ++ firstFromR l i.1 i.2.1)))
      (by
        rintro ⟨k, n, out⟩ ⟨h3, h4, h5⟩
        simp only at h3 h4 h5
        have hw := wrap_same (n := n - 1) (by omega) (by omega)
        have hlt : (n - 1).toNat < l.length := by omega
        obtain ⟨⟨ps, st⟩, hc⟩ : ∃ c, l[(n - 1).toNat]? = some c := ⟨_, List.getElem?_eq_getElem hlt⟩
        cases k with
        | zero =>
          refine .inr ⟨by simp, ?_⟩
          simp only [t64_0, ld_br, ld_chk', ld_leaf, fd_br, fd_chk', fd_leaf, decide_true, decide_eq_true_eq, if_true, Int.toNat_natCast, Int.natCast_nonneg, Int.ofNat_lt, Bool.false_eq_true, if_false, bne_iff_ne, beq_iff_eq, ne_eq, not_true_eq_false, not_false_eq_true, Bool.not_eq_true', decide_eq_false_iff_not, reduceCtorEq, repo_length, ints_length, ec_ok, ec_par, ec_stamp, ei_ok, ei_i, isRepo_repo, isInts_ints, toRepo_repo, toInts_ints, repo_take, repo_drop, ints_take, ints_drop, ints_append, mk_headD, ei_len, ei_take, Nat.zero_add, Nat.le_refl, List.take_length, ints_snoc, ints_snoc', hw, hlt, repo_at hc]
          simp (disch := omega) only [if_pos]
          simp only [firstFromR, lastFromR, List.append_nil, show ¬ out.length < l.length by omega, if_false]
          split <;> rfl
        | succ k =>
          cases ps with
          | nil =>
            refine .inr ⟨by simp, ?_⟩
            simp only [t64_0, ld_br, ld_chk', ld_leaf, fd_br, fd_chk', fd_leaf, decide_true, decide_eq_true_eq, if_true, Int.toNat_natCast, Int.natCast_nonneg, Int.ofNat_lt, Bool.false_eq_true, if_false, bne_iff_ne, beq_iff_eq, ne_eq, not_true_eq_false, not_false_eq_true, Bool.not_eq_true', decide_eq_false_iff_not, reduceCtorEq, repo_length, ints_length, ec_ok, ec_par, ec_stamp, ei_ok, ei_i, isRepo_repo, isInts_ints, toRepo_repo, toInts_ints, repo_take, repo_drop, ints_take, ints_drop, ints_append, mk_headD, ei_len, ei_take, Nat.zero_add, Nat.le_refl, List.take_length, ints_snoc, ints_snoc', hw, hlt, repo_at hc, firstFromR, lastFromR, getD_of hc, List.length_nil, List.append_nil]
            simp (disch := omega) only [if_pos]
            simp
          | cons p ps =>
            have hp := right_par h1 hc p (by simp)
            have e1 : (ints (p :: ps)).getD (Int.toNat 0) [] = ei p := rfl
            have e2 : Int.toNat 0 < (p :: ps).length := by simp
            refine .inl ⟨(k, p, out ++ [p]), ⟨by dsimp only; omega, by dsimp only; omega, by simp; omega⟩, by simp, ?_, ?_⟩
            · simp only [firstFromR, lastFromR, getD_of hc]
              simp
            · simp only [t64_0, ld_br, ld_chk', ld_leaf, fd_br, fd_chk', fd_leaf, decide_true, decide_eq_true_eq, if_true, Int.toNat_natCast, Int.natCast_nonneg, Int.ofNat_lt, Bool.false_eq_true, if_false, bne_iff_ne, beq_iff_eq, ne_eq, not_true_eq_false, not_false_eq_true, Bool.not_eq_true', decide_eq_false_iff_not, reduceCtorEq, repo_length, ints_length, ec_ok, ec_par, ec_stamp, ei_ok, ei_i, isRepo_repo, isInts_ints, toRepo_repo, toInts_ints, repo_take, repo_drop, ints_take, ints_drop, ints_append, mk_headD, ei_len, ei_take, Nat.zero_add, Nat.le_refl, List.take_length, ints_snoc, ints_snoc', hw, hlt, repo_at hc, e1, e2, show out.length < l.length by omega]
              simp (disch := omega) only [if_pos]
              simp) (l.length - 1, n, [n]) ⟨ha.1, ha.2, by simp; omega⟩
    refine fd_ls (p := p64) hct (by kernel_rfl) hloop ?_ rfl
    rw [k64_0x0, fd_leaf, List.take_of_length_le (by simp)]
    rfl
theorem s64_ok : CSpecOk E 64 s64 := by
  intro a h cs vals h' he hc
  unfold s64 at he
  split at he <;> simp only [Option.some.injEq, Prod.mk.injEq, reduceCtorEq] at he
  obtain ⟨rfl, rfl, rfl⟩ := he
  simp only [allT, Bool.and_eq_true, and_true] at hc
  rename_i nl t xs n
  have := f64 (toRepo xs) nl t n hc.2
  rwa [← repo_of hc.1] at this
/-! ## SameInts, Same -/
theorem take_step {α : Type} {xs ys : List α} {k : Nat} {x : α} (h : xs.take k = ys.take k) (hx : xs[k]? = some x) (hy : ys[k]? = some x) : xs.take (k + 1) = ys.take (k + 1) := by
  rw [List.take_add_one, List.take_add_one, h, hx, hy]
theorem f25 (xs ys : List Int) (nl : Option Bool) (t : Bool) (nl2 : Option Bool) (t2 : Bool) (hl : xs.length ≤ 4294967296) : call E 25 [.c (.sl 1 nl t (ints xs)), .c (.sl 1 nl2 t2 (ints ys))] [] = some ([V.b (xs == ys)], []) := by
  refine call_of (E := E) (sh := sh) (ct := ctOf []) (na := 2) (m := 0) ctOf_nil rfl rfl rfl rfl rfl rfl ?_
  simp only [t25, ld_br, ld_chk', ld_leaf, fd_br, fd_chk', fd_leaf, decide_true, decide_eq_true_eq, if_true, Int.toNat_natCast, Int.natCast_nonneg, Int.ofNat_lt, Bool.false_eq_true, if_false, bne_iff_ne, beq_iff_eq, ne_eq, not_true_eq_false, not_false_eq_true, Bool.not_eq_true', decide_eq_false_iff_not, reduceCtorEq, repo_length, ints_length, ec_ok, ec_par, ec_stamp, ei_ok, ei_i, isRepo_repo, isInts_ints, toRepo_repo, toInts_ints, repo_take, repo_drop, ints_take, ints_drop, ints_append, mk_headD, ei_len, ei_take, Nat.zero_add, Nat.le_refl, List.take_length, ints_snoc, ints_snoc']
  by_cases h : xs.length = ys.length
  · rw [if_neg (by omega)]
    have hloop := loop_list (p := p25) ctOf_nil (b := b25_0) xs (fun k (_ : Unit) => s25_0 nl t (ints xs) nl2 t2 (ints ys) k) (fun k _ => xs.take k = ys.take k)
      (fun _ _ => cond (xs == ys) (x25_0x1 nl t (ints xs) nl2 t2 (ints ys) xs.length) x25_0x0)
      (by
        intro k _ x hx hk hi
        obtain ⟨y, hy⟩ : ∃ y, ys[k]? = some y := ⟨_, List.getElem?_eq_getElem (by omega)⟩
        have hky : k < ys.length := by omega
        have hw := wrap_same (n := (k : Int) + 1) (by omega) (by omega)
        simp only [t25_0, ld_br, ld_chk', ld_leaf, fd_br, fd_chk', fd_leaf, decide_true, decide_eq_true_eq, if_true, Int.toNat_natCast, Int.natCast_nonneg, Int.ofNat_lt, Bool.false_eq_true, if_false, bne_iff_ne, beq_iff_eq, ne_eq, not_true_eq_false, not_false_eq_true, Bool.not_eq_true', decide_eq_false_iff_not, reduceCtorEq, repo_length, ints_length, ec_ok, ec_par, ec_stamp, ei_ok, ei_i, isRepo_repo, isInts_ints, toRepo_repo, toInts_ints, repo_take, repo_drop, ints_take, ints_drop, ints_append, mk_headD, ei_len, ei_take, Nat.zero_add, Nat.le_refl, List.take_length, ints_snoc, ints_snoc', hk, hky, ints_at hx, ints_at hy, hw]
        by_cases hxy : x = y
        · subst hxy
          exact .inl ⟨(), take_step hi hx hy, trivial, by simp⟩
        · refine .inr ?_
          have : (xs == ys) = false := by
            rw [beq_eq_false_iff_ne]
            intro e
            rw [e, hy] at hx
            exact hxy (Option.some.inj hx).symm
          simp only [this, cond_false, hxy, not_false_eq_true, if_true]
          exact ⟨by simp, trivial⟩)
      (by
        intro _ hi
        have : (xs == ys) = true := by
          rw [beq_iff_eq]
          rwa [List.take_length, h, List.take_length] at hi
        simp only [t25_0, ld_br, ld_chk', ld_leaf, fd_br, fd_chk', fd_leaf, decide_true, decide_eq_true_eq, if_true, Int.toNat_natCast, Int.natCast_nonneg, Int.ofNat_lt, Bool.false_eq_true, if_false, bne_iff_ne, beq_iff_eq, ne_eq, not_true_eq_false, not_false_eq_true, Bool.not_eq_true', decide_eq_false_iff_not, reduceCtorEq, repo_length, ints_length, ec_ok, ec_par, ec_stamp, ei_ok, ei_i, isRepo_repo, isInts_ints, toRepo_repo, toInts_ints, repo_take, repo_drop, ints_take, ints_drop, ints_append, mk_headD, ei_len, ei_take, Nat.zero_add, Nat.le_refl, List.take_length, ints_snoc, ints_snoc', Int.lt_irrefl, this, cond_true]
        exact ⟨by simp, trivial⟩) () (by simp)
    cases hb : xs == ys <;> rw [hb] at hloop
    · exact fd_ls (p := p25) ctOf_nil (by kernel_rfl) hloop (by rw [cond_false, k25_0x0, fd_leaf]) rfl
    · exact fd_ls (p := p25) ctOf_nil (by kernel_rfl) hloop (by rw [cond_true, k25_0x1, fd_leaf]) rfl
  · rw [if_pos (by omega)]
    have : (xs == ys) = false := by
      rw [beq_eq_false_iff_ne]
      exact fun e => h (by rw [e])
    rw [this]
theorem s25_ok : CSpecOk E 25 s25 := by
  intro a h cs vals h' he hc
  unfold s25 at he
  split at he <;> simp only [Option.some.injEq, Prod.mk.injEq, reduceCtorEq] at he
  obtain ⟨rfl, rfl, rfl⟩ := he
  simp only [allT, Bool.and_eq_true, and_true, decide_eq_true_eq] at hc
  rename_i nl t xs nl2 t2 ys
  have := f25 (toInts xs) (toInts ys) nl t nl2 t2 (by rw [toInts_length]; exact hc.2.2)
  rwa [← ints_of hc.1, ← ints_of hc.2.1] at this
end Go.Proofs.YtbilmkcdhodenaaDoor.Gr

end

/-
  Chapter 12 (graph): the plain law: what is reached.
-/
section
namespace Go.Proofs.YtbilmkcdhodenaaDoor.Gr
open Go Go.Ev
/-- The parents of commit i. -/
def par (l : List Cm) (i : Nat) : List Int := (l.getD (i - 1) ([], 0)).1
/-- Parents come ahead. -/
def Ahead (l : List Cm) : Prop := ∀ i, ∀ p ∈ par l i, 1 ≤ p ∧ p < i ∧ i ≤ l.length
theorem right_ahead {l : List Cm} (h : right l = true) : Ahead l := by
  intro i p hp
  unfold par at hp
  by_cases hi : i - 1 < l.length
  · have hc : l[i - 1]? = some l[i - 1] := List.getElem?_eq_getElem hi
    rw [getD_of hc] at hp
    have := right_par h hc p hp
    omega
  · rw [List.getD_eq_getElem?_getD, List.getElem?_eq_none (by omega)] at hp
    simp at hp

end Go.Proofs.YtbilmkcdhodenaaDoor.Gr

end

/-
  Chapter 12 (graph): the plain law: what the program computes is what the reference computes.
-/
section
namespace Go.Proofs.YtbilmkcdhodenaaDoor.Gr
open Go Go.Ev
theorem has_one {l : List Cm} {a : Int} (h : hasG l [a] = true) : right l = true ∧ 1 ≤ a ∧ a ≤ l.length := by
  obtain ⟨h1, h2⟩ := has_right h
  exact ⟨h1, noNum_iff.1 (h2 a (by simp))⟩
/-! ## First, AsOf -/
theorem first_same_from {l : List Cm} (ha : Ahead l) : ∀ (k : Nat) (n : Int) (k' : Nat), 1 ≤ n → n ≤ k + 1 → n ≤ k' + 1 → firstFromR l k n = firstFrom l k' (l.getD (n - 1).toNat ([], 0)).1
  | 0, n, k', h1, h2, h3 => by
    have e : (l.getD (n - 1).toNat ([], 0)).1 = [] := by
      match hc : (l.getD (n - 1).toNat ([], 0)).1 with
      | [] => rfl
      | p :: ps =>
        have := ha n.toNat p (by unfold par; rw [show n.toNat - 1 = (n - 1).toNat by omega, hc]; simp)
        omega
    rw [e]
    cases k' <;> rfl
  | k + 1, n, k', h1, h2, h3 => by
    simp only [firstFromR]
    match hc : (l.getD (n - 1).toNat ([], 0)).1 with
    | [] => cases k' <;> rfl
    | p :: ps =>
      have hp := ha n.toNat p (by unfold par; rw [show n.toNat - 1 = (n - 1).toNat by omega, hc]; simp)
      cases k' with
      | zero => omega
      | succ k' =>
        simp only [firstFrom]
        rw [first_same_from ha k p k' hp.1 (by omega) (by omega)]
theorem first_same (l : List Cm) (n : Int) : firstG l n = firstR l n := by
  unfold firstG firstR
  cases h : hasG l [n] with
  | false => rfl
  | true =>
    obtain ⟨hr, h1, h2⟩ := has_one h
    rw [if_pos rfl, if_pos rfl, first_same_from (right_ahead hr) (l.length - 1) n n.toNat h1 (by omega) (by omega)]
end Go.Proofs.YtbilmkcdhodenaaDoor.Gr

end
