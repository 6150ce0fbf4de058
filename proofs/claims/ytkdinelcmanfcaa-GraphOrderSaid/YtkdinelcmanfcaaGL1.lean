/-
  Chapter 12 (graph): what is known of the laws' callees.
-/
import Derived.Test.YtkdinelcmanfcaaGT9
import Derived.Test.YtkdinelcmanfcaaGM3
import Derived.Test.YtkdinelcmanfcaaGF10
set_option linter.unusedSimpArgs false
set_option linter.unusedVariables false
namespace Go.Proofs.Ytkdinelcmanfcaa
open Go Go.Ev

theorem f9 (l : List Cm) (nl : Option Bool) (t : Bool) (n : Int) (hs : smallB l = true) : call E 9 [.c (.sl 2 nl t (repo l)), V.i n] [] = some ([V.b (hasG l [n])], []) := by
  refine call_of (E := E) (sh := sh) (ct := ctOf [(26, s26)]) (na := 2) (m := 0) (ctOf_cons s26_ok ctOf_nil) rfl rfl rfl rfl rfl rfl ?_
  simp only [t9, ld_br, ld_chk', ld_leaf, fd_br, fd_chk', fd_leaf, decide_true, decide_eq_true_eq, if_true, Int.toNat_natCast, Int.natCast_nonneg, Int.ofNat_lt, Bool.false_eq_true, if_false, bne_iff_ne, beq_iff_eq, ne_eq, not_true_eq_false, not_false_eq_true, Bool.not_eq_true', decide_eq_false_iff_not, reduceCtorEq, repo_length, ints_length, ec_ok, ec_par, ec_stamp, ei_ok, ei_i, isRepo_repo, isInts_ints, toRepo_repo, toInts_ints, repo_take, repo_drop, ints_take, ints_drop, ints_append, mk_headD, ei_len, ei_take, Nat.zero_add, Nat.le_refl, List.take_length, ints_snoc, ints_snoc', hs, hasG, right, List.any_cons, List.any_nil, Bool.or_false]
  by_cases h0 : (checkG l).2 = 0
  · rw [if_pos h0, h0]
    by_cases h1 : 1 ≤ n
    · rw [if_pos h1]
      by_cases h2 : n ≤ l.length
      · rw [noNum_iff.2 ⟨h1, h2⟩]; simp [h2]
      · have : noNum l.length n = true := by simp [noNum]; omega
        rw [this]; simp [h2]
    · rw [if_neg h1]
      have : noNum l.length n = true := by simp [noNum]; omega
      rw [this]; simp
  · rw [if_neg h0]; simp [h0]
theorem RL_ok {l : List Cm} : ∀ n, hasG l [n] = true → ∀ x ∈ reachesR l n, noNum l.length x = false := by
  intro n hn x hx
  obtain ⟨hr, h1, h2⟩ := has_one hn
  have ha := right_ahead hr
  rw [reachesR_int ha h1, RL_mem ha (by omega)] at hx
  have := rch_bnd ha (by omega) hx.2
  exact noNum_iff.2 ⟨hx.1, by omega⟩
theorem firstR_ok {l : List Cm} {n : Int} : (∀ x ∈ firstR l n, right l = true ∧ 1 ≤ x ∧ x ≤ l.length) ∧ (firstR l n).length ≤ 501 := by
  rw [← first_same]
  exact ⟨fun x hx => first_mem hx, first_len⟩
theorem s8_ok : CSpecOk E 8 s8 := by
  intro a h cs vals h' he hc
  unfold s8 at he
  split at he <;> simp only [Option.some.injEq, Prod.mk.injEq, reduceCtorEq] at he
  obtain ⟨rfl, rfl, rfl⟩ := he
  simp only [allT, Bool.and_eq_true, and_true] at hc
  rename_i nl t xs
  have := f8 (toRepo xs) nl t
  rwa [← repo_of hc] at this
theorem s10_ok : CSpecOk E 10 s10 := by
  intro a h cs vals h' he hc
  unfold s10 at he
  split at he <;> simp only [Option.some.injEq, Prod.mk.injEq, reduceCtorEq] at he
  obtain ⟨rfl, rfl, rfl⟩ := he
  exact f10

theorem s9_ok : CSpecOk E 9 s9 := by
  intro a h cs vals h' he hc
  unfold s9 s35 at he
  split at he <;> simp only [Option.some.injEq, Prod.mk.injEq, reduceCtorEq] at he
  obtain ⟨rfl, rfl, rfl⟩ := he
  simp only [allT, Bool.and_eq_true, and_true] at hc
  rename_i nl t xs n
  have := f9 (toRepo xs) nl t n hc.2
  rwa [← repo_of hc.1] at this

theorem s11_ok : CSpecOk E 11 s11 := by
  intro a h cs vals h' he hc
  unfold s11 at he
  split at he <;> simp only [Option.some.injEq, Prod.mk.injEq, reduceCtorEq] at he
  obtain ⟨rfl, rfl, rfl⟩ := he
  simp only [allT, Bool.and_eq_true, and_true] at hc
  rename_i nl t xs a b
  have := f11 (toRepo xs) nl t a b hc.2
  rwa [← repo_of hc.1] at this

theorem s12_ok : CSpecOk E 12 s12 := by
  intro a h cs vals h' he hc
  unfold s12 at he
  split at he <;> simp only [Option.some.injEq, Prod.mk.injEq, reduceCtorEq] at he
  obtain ⟨rfl, rfl, rfl⟩ := he
  simp only [allT, Bool.and_eq_true, and_true] at hc
  rename_i nl t xs n
  have := f12 (toRepo xs) nl t n hc.2
  rwa [← repo_of hc.1] at this

theorem s13_ok : CSpecOk E 13 s13 := by
  intro a h cs vals h' he hc
  unfold s13 at he
  split at he <;> simp only [Option.some.injEq, Prod.mk.injEq, reduceCtorEq] at he
  obtain ⟨rfl, rfl, rfl⟩ := he
  simp only [allT, Bool.and_eq_true, and_true] at hc
  rename_i nl t xs a b
  have := f13 (toRepo xs) nl t a b hc.2
  rwa [← repo_of hc.1] at this

theorem s15_ok : CSpecOk E 15 s15 := by
  intro a h cs vals h' he hc
  unfold s15 at he
  split at he <;> simp only [Option.some.injEq, Prod.mk.injEq, reduceCtorEq] at he
  obtain ⟨rfl, rfl, rfl⟩ := he
  simp only [allT, Bool.and_eq_true, and_true] at hc
  rename_i nl t xs n
  have := f15 (toRepo xs) nl t n hc.2
  rwa [← repo_of hc.1] at this

theorem s16_ok : CSpecOk E 16 s16 := by
  intro a h cs vals h' he hc
  unfold s16 at he
  split at he <;> simp only [Option.some.injEq, Prod.mk.injEq, reduceCtorEq] at he
  obtain ⟨rfl, rfl, rfl⟩ := he
  simp only [allT, Bool.and_eq_true, and_true] at hc
  rename_i nl t xs n
  have := f16 (toRepo xs) nl t n hc.2
  rwa [← repo_of hc.1] at this

theorem s18_ok : CSpecOk E 18 s18 := by
  intro a h cs vals h' he hc
  unfold s18 at he
  split at he <;> simp only [Option.some.injEq, Prod.mk.injEq, reduceCtorEq] at he
  obtain ⟨rfl, rfl, rfl⟩ := he
  simp only [allT, Bool.and_eq_true, and_true] at hc
  rename_i nl t xs a b
  have := f18 (toRepo xs) nl t a b hc.2
  rwa [← repo_of hc.1] at this

theorem s19_ok : CSpecOk E 19 s19 := by
  intro a h cs vals h' he hc
  unfold s19 at he
  split at he <;> simp only [Option.some.injEq, Prod.mk.injEq, reduceCtorEq] at he
  obtain ⟨rfl, rfl, rfl⟩ := he
  simp only [allT, Bool.and_eq_true, and_true] at hc
  rename_i nl t xs a b
  have := f19 (toRepo xs) nl t a b hc.2 RL_ok
  rwa [← repo_of hc.1] at this

theorem s22_ok : CSpecOk E 22 s22 := by
  intro a h cs vals h' he hc
  unfold s22 at he
  split at he <;> simp only [Option.some.injEq, Prod.mk.injEq, reduceCtorEq] at he
  obtain ⟨rfl, rfl, rfl⟩ := he
  simp only [allT, Bool.and_eq_true, and_true] at hc
  rename_i nl t xs n u
  have := f22 (toRepo xs) nl t n u hc.2
  rwa [← repo_of hc.1] at this

theorem s23_ok : CSpecOk E 23 s23 := by
  intro a h cs vals h' he hc
  unfold s23 at he
  split at he <;> simp only [Option.some.injEq, Prod.mk.injEq, reduceCtorEq] at he
  obtain ⟨rfl, rfl, rfl⟩ := he
  simp only [allT, Bool.and_eq_true, and_true] at hc
  rename_i nl t xs n u
  have := f23 (toRepo xs) nl t n u hc.2 firstR_ok.1 firstR_ok.2
  rwa [← repo_of hc.1] at this

theorem s24_ok : CSpecOk E 24 s24 := by
  intro a h cs vals h' he hc
  unfold s24 at he
  split at he <;> simp only [Option.some.injEq, Prod.mk.injEq, reduceCtorEq] at he
  obtain ⟨rfl, rfl, rfl⟩ := he
  simp only [allT, Bool.and_eq_true, and_true] at hc
  rename_i nl t xs a b
  have := f24 (toRepo xs) nl t a b hc.2
  rwa [← repo_of hc.1] at this

theorem s25_ok : CSpecOk E 25 s25 := by
  intro a h cs vals h' he hc
  unfold s25 at he
  split at he <;> simp only [Option.some.injEq, Prod.mk.injEq, reduceCtorEq] at he
  obtain ⟨rfl, rfl, rfl⟩ := he
  simp only [allT, Bool.and_eq_true, and_true] at hc
  rename_i nl t xs a b
  have := f25 (toRepo xs) nl t a b hc.2
  rwa [← repo_of hc.1] at this

theorem s28_ok : CSpecOk E 28 s28 := by
  intro a h cs vals h' he hc
  unfold s28 at he
  split at he <;> simp only [Option.some.injEq, Prod.mk.injEq, reduceCtorEq] at he
  obtain ⟨rfl, rfl, rfl⟩ := he
  simp only [allT, Bool.and_eq_true, and_true, decide_eq_true_eq] at hc
  obtain ⟨h1, h2, h3, h4, h5⟩ := hc
  rename_i t xs ps st
  have := f28 (toRepo xs) t (toInts ps, st) h2 (by rw [toInts_length]; exact h4) (by rw [toRepo_length]; exact h5)
  rwa [← repo_of h1, ← ints_of h3] at this
theorem s29_ok : CSpecOk E 29 s29 := by
  intro a h cs vals h' he hc
  unfold s29 at he
  split at he <;> simp only [Option.some.injEq, Prod.mk.injEq, reduceCtorEq] at he
  obtain ⟨rfl, rfl, rfl⟩ := he
  simp only [allT, Bool.and_eq_true, and_true, decide_eq_true_eq] at hc
  obtain ⟨h1, h2, h3, h4, h5⟩ := hc
  rename_i nl t xs ps st
  have := f29 (toRepo xs) nl t (toInts ps, st) h2 (by rw [toInts_length]; exact h4) (by rw [toRepo_length]; exact h5)
  rwa [← repo_of h1, ← ints_of h3] at this
theorem s30_ok : CSpecOk E 30 s30 := by
  intro a h cs vals h' he hc
  unfold s30 at he
  split at he <;> simp only [Option.some.injEq, Prod.mk.injEq, reduceCtorEq] at he
  obtain ⟨rfl, rfl, rfl⟩ := he
  simp only [allT, Bool.and_eq_true, and_true, decide_eq_true_eq] at hc
  obtain ⟨h1, h2, h3, h4⟩ := hc
  rename_i nl t xs nl2 t2 ys
  have := f30 (toRepo xs) (toRepo ys) nl t nl2 t2 (by rw [toRepo_length]; exact h3) h4
  rwa [← repo_of h1, ← repo_of h2] at this

theorem ctL_ok : CT.ok E (ctOf ctL) :=
  ctOf_cons s8_ok (ctOf_cons s9_ok (ctOf_cons s10_ok (ctOf_cons s11_ok (ctOf_cons s12_ok (ctOf_cons s13_ok (ctOf_cons s14_ok (ctOf_cons s15_ok (ctOf_cons s16_ok (ctOf_cons s17_ok (ctOf_cons s18_ok (ctOf_cons s19_ok (ctOf_cons s20_ok (ctOf_cons s21_ok (ctOf_cons s22_ok (ctOf_cons s23_ok (ctOf_cons s24_ok (ctOf_cons s25_ok (ctOf_cons s26_ok (ctOf_cons s27_ok (ctOf_cons s28_ok (ctOf_cons s29_ok (ctOf_cons s30_ok (ctOf_nil)))))))))))))))))))))))

theorem few_small {l : List Cm} (h : few l = true) : smallB l = true ∧ l.length ≤ 60 := by
  simp only [few, Bool.and_eq_true, decide_eq_true_eq, List.all_eq_true] at h
  refine ⟨?_, h.1⟩
  simp only [smallB, List.all_eq_true, decide_eq_true_eq]
  intro c hc
  have := h.2 c hc
  omega
theorem stamp_at {l : List Cm} {a : Int} (h : hasG l [a] = true) : ∃ c : Cm, l[(a - 1).toNat]? = some c ∧ c.2 = stampOf l a := by
  obtain ⟨hr, h1, h2⟩ := has_one h
  have hlt : (a - 1).toNat < l.length := by omega
  exact ⟨_, List.getElem?_eq_getElem hlt, by unfold stampOf; rw [getD_of (List.getElem?_eq_getElem hlt)]⟩
end Go.Proofs.Ytkdinelcmanfcaa