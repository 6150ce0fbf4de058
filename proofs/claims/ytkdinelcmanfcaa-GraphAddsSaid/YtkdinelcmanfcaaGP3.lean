/-
  Chapter 12 (graph): fault.
-/
import Derived.Test.YtkdinelcmanfcaaGT3
set_option linter.unusedSimpArgs false
set_option linter.unusedVariables false
namespace Go.Proofs.Ytkdinelcmanfcaa
open Go Go.Ev

theorem s46_ok : CSpecOk E 46 s46 := by
  intro a h cs vals h' he hc
  unfold s46 at he
  split at he <;> simp only [Option.some.injEq, Prod.mk.injEq, reduceCtorEq] at he <;> obtain ⟨rfl, rfl, rfl⟩ := he <;> simp only [allT, Bool.and_eq_true, decide_eq_true_eq, and_true] at hc
  · rename_i nl t xs nl2 t2 ys
    have := f46a (toInts xs) nl t nl2 t2 ys (by rw [toInts_length]; exact hc.2)
    rwa [← ints_of hc.1] at this
  · rename_i nl t xs nl2 t2 ys
    have := f46c (toInts xs) nl t nl2 t2 ys (by rw [toInts_length]; exact hc.2)
    rwa [← ints_of hc.1] at this
  · rename_i nl t xs nl2 t2 ys c st
    obtain ⟨h1, h2, h3, h4, h5⟩ := hc
    have := f46b (toInts xs) nl t nl2 t2 (toRepo ys) c st (by rw [toRepo_length]; exact h4) (by rw [toRepo_length]; exact h5) (by rw [toInts_length]; exact h2)
    rwa [← ints_of h1, ← repo_of h3] at this

theorem f42 (l : List Cm) (nl : Option Bool) (t : Bool) (nl2 : Option Bool) (t2 : Bool) (c : Cm) (hl : l.length ≤ 500) (hc : c.1.length ≤ 4294967296) :
    call E 42 [.c (.sl 2 nl t (repo l)), .agg [.c (.sl 1 nl2 t2 (ints c.1)), V.i c.2]] [] = some ([V.i (faultG l c)], []) := by
  obtain ⟨ps, st⟩ := c
  refine call_of (E := E) (sh := sh) (ct := ctOf [(46, s46)]) (na := 2) (m := 0) (ctOf_cons s46_ok ctOf_nil) rfl rfl rfl rfl rfl rfl ?_
  simp only at hc ⊢
  rw [t42]
  have rest : ∀ {x : Option R}, (if (ps.any (noNum l.length)) = true then some (R.out [V.c (C.int .i64 17)] []) else x) = some (R.out [V.i (if (ps.any (noNum l.length)) = true then 17 else if (ps.any (lateFor l st)) = true then 14 else 0)] []) ↔ ((ps.any (noNum l.length)) = false → x = some (R.out [V.i (if (ps.any (lateFor l st)) = true then 14 else 0)] [])) := by
    intro x
    cases ps.any (noNum l.length) <;> simp
  have hall : ∀ (_ : ps.any (noNum l.length) = false), (ps.all fun n => !noNum l.length n) = true := by
    intro h
    rw [List.any_eq_false] at h
    rw [List.all_eq_true]
    intro x hx
    simpa using h x hx
  simp only [fd_br, fd_leaf, ints_length, repo_length, decide_eq_true_eq, beq_iff_eq, toInts_ints, toRepo_repo]
  unfold faultG
  simp only
  by_cases h1 : st < 0
  · simp [h1]
  rw [if_neg h1]
  by_cases h2 : 1099511627776 < st
  · simp [h2]
  rw [if_neg h2]
  by_cases h3 : 2 < ps.length
  · rw [if_pos (by omega), if_pos (by simp [h3])]
  rw [if_neg (by omega)]
  have tail : ∀ {x : Option R}, (ps.any (noNum l.length) = false → x = (if (ps.any (lateFor l st)) = true then some (R.out [V.c (C.int .i64 14)] []) else some (R.out [V.c (C.int .i64 0)] []))) →
      (if (ps.any (noNum l.length)) = true then some (R.out [V.c (C.int .i64 17)] []) else x) = some (R.out [V.i (if (ps.any (noNum l.length)) = true then 17 else if (ps.any (lateFor l st)) = true then 14 else 0)] []) := by
    intro x hx
    rw [rest]
    intro h
    rw [hx h]
    split <;> rfl
  by_cases h4 : ps.length = 2
  · rw [if_pos (by omega)]
    match ps, h4 with
    | [a, b], _ =>
      rw [fd_chk (by rfl), fd_chk (by rfl), fd_chk (by rfl), fd_chk (by rfl), fd_chk (by rfl), fd_chk (by rfl), fd_chk (by rfl), fd_chk (by rfl), fd_br]
      by_cases h5 : a = b
      · subst h5
        rw [if_pos (by simp [ints, ei, C.i]), if_pos (by simp)]
        rfl
      · rw [if_neg (by simpa [ints, ei, C.i] using h5), if_neg (by simp [h1, h2, h5])]
        rw [fd_chk (isInts_ints _), fd_chk (by simp), fd_br]
        refine tail fun h => ?_
        rw [fd_chk (isInts_ints _), fd_chk (by simp), fd_chk (isRepo_repo _), fd_chk (by simpa using hl), fd_chk (hall h), fd_br]
        rfl
  · rw [if_neg (by omega), if_neg (by simp [h1, h2, h3, h4])]
    rw [fd_chk (isInts_ints _), fd_chk (by simpa using hc), fd_br]
    refine tail fun h => ?_
    rw [fd_chk (isInts_ints _), fd_chk (by simpa using hc), fd_chk (isRepo_repo _), fd_chk (by simpa using hl), fd_chk (hall h), fd_br]
    rfl
end Go.Proofs.Ytkdinelcmanfcaa
