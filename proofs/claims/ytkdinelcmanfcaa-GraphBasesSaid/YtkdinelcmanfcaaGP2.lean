/-
  Chapter 12 (graph): ContainsFunc, fault.
-/
import Derived.Test.YtkdinelcmanfcaaGT2
set_option linter.unusedSimpArgs false
set_option linter.unusedVariables false
namespace Go.Proofs.Ytkdinelcmanfcaa
open Go Go.Ev

theorem toRepo_length (xs : List (List C)) : (toRepo xs).length = xs.length := by simp [toRepo]

theorem s51_ok : CSpecOk E 51 s51 := by
  intro a h cs vals h' he hc
  unfold s51 at he
  split at he <;> simp only [Option.some.injEq, Prod.mk.injEq, reduceCtorEq] at he <;> obtain ⟨rfl, rfl, rfl⟩ := he <;> simp only [allT, Bool.and_eq_true, decide_eq_true_eq, and_true] at hc
  · rename_i nl t xs nl2 t2 ys
    have := f51a (toInts xs) nl t nl2 t2 ys (by rw [toInts_length]; exact hc.2)
    rwa [← ints_of hc.1] at this
  · rename_i nl t xs nl2 t2 ys
    have := f51c (toInts xs) nl t nl2 t2 ys (by rw [toInts_length]; exact hc.2)
    rwa [← ints_of hc.1] at this
  · rename_i nl t xs nl2 t2 ys c st
    obtain ⟨h1, h2, h3, h4, h5⟩ := hc
    have := f51b (toInts xs) nl t nl2 t2 (toRepo ys) c st (by rw [toRepo_length]; exact h4) (fun n hn => by
      rw [List.all_eq_true] at h5
      rw [toRepo_length]
      simpa using h5 n hn) (by rw [toInts_length]; exact h2)
    rwa [← ints_of h1, ← repo_of h3] at this

theorem firstAt_any (Q : Int → Bool) (l : List Int) : decide (0 ≤ firstAt Q l) = l.any Q := by
  unfold firstAt
  cases h : l.findIdx? Q with
  | none =>
    rw [List.findIdx?_eq_none_iff] at h
    rw [show l.any Q = false by rw [List.any_eq_false]; intro x hx; simp [h x hx]]
    simp
  | some i =>
    obtain ⟨hi, hq, _⟩ := List.findIdx?_eq_some_iff_getElem.1 h
    rw [show l.any Q = true by rw [List.any_eq_true]; exact ⟨_, List.getElem_mem hi, hq⟩]
    simp

theorem f46a (l : List Int) (nl : Option Bool) (t : Bool) (nl2 : Option Bool) (t2 : Bool) (ys : List (List C)) (hl : l.length ≤ 4294967296) :
    call E 46 [.c (.sl 1 nl t (ints l)), .fn 49 [.ptr 0 0 0 0]] [.box [.c (.sl 2 nl2 t2 ys)]] = some ([V.b (l.any (noNum ys.length))], [.box [.c (.sl 2 nl2 t2 ys)]]) := by
  refine call_of (E := E) (sh := sh) (ct := ctOf [(51, s51)]) (na := 2) (m := 1) (ctOf_cons s51_ok ctOf_nil) rfl rfl rfl rfl rfl rfl ?_
  rw [t46a, fd_chk (isInts_ints _), fd_chk (by simpa using hl), fd_leaf, toInts_ints, firstAt_any]
theorem f46c (l : List Int) (nl : Option Bool) (t : Bool) (nl2 : Option Bool) (t2 : Bool) (ys : List (List C)) (hl : l.length ≤ 4294967296) :
    call E 46 [.c (.sl 1 nl t (ints l)), .fn 47 [.ptr 0 0 0 0]] [.box [.c (.sl 2 nl2 t2 ys)]] = some ([V.b (l.any (noNum ys.length))], [.box [.c (.sl 2 nl2 t2 ys)]]) := by
  refine call_of (E := E) (sh := sh) (ct := ctOf [(51, s51)]) (na := 2) (m := 1) (ctOf_cons s51_ok ctOf_nil) rfl rfl rfl rfl rfl rfl ?_
  rw [t46c, fd_chk (isInts_ints _), fd_chk (by simpa using hl), fd_leaf, toInts_ints, firstAt_any]
theorem f46b (l : List Int) (nl : Option Bool) (t : Bool) (nl2 : Option Bool) (t2 : Bool) (r : List Cm) (c : C) (st : Int) (hr : r.length ≤ 500) (hn : (l.all fun n => !noNum r.length n) = true) (hl : l.length ≤ 4294967296) :
    call E 46 [.c (.sl 1 nl t (ints l)), .fn 50 [.ptr 0 0 0 0, .ptr 1 0 0 0]] [.box [.c (.sl 2 nl2 t2 (repo r))], .box [.c c, V.i st]] = some ([V.b (l.any (lateFor r st))], [.box [.c (.sl 2 nl2 t2 (repo r))], .box [.c c, V.i st]]) := by
  refine call_of (E := E) (sh := sh) (ct := ctOf [(51, s51)]) (na := 2) (m := 2) (ctOf_cons s51_ok ctOf_nil) rfl rfl rfl rfl rfl rfl ?_
  rw [t46b, fd_chk (isInts_ints _), fd_chk (by simpa using hl), fd_chk (isRepo_repo _), fd_chk (by simpa using hr), toInts_ints, repo_length, fd_chk hn, fd_leaf, toRepo_repo, firstAt_any]
end Go.Proofs.Ytkdinelcmanfcaa
