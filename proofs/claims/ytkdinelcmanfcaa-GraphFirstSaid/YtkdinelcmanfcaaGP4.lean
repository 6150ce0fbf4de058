/-
  Chapter 12 (graph): Check, few.
-/
import Derived.Test.YtkdinelcmanfcaaGT5
set_option linter.unusedSimpArgs false
set_option linter.unusedVariables false
namespace Go.Proofs.Ytkdinelcmanfcaa
open Go Go.Ev

theorem getD_of {α : Type} {l : List α} {k : Nat} {x d : α} (h : l[k]? = some x) : l.getD k d = x := by rw [List.getD_eq_getElem?_getD, h]; rfl
theorem repo_at {l : List Cm} {k : Nat} {x : Cm} (h : l[k]? = some x) : (repo l).getD k [] = ec x := by
  rw [List.getD_eq_getElem?_getD]; simp [repo, h]
theorem ints_at {l : List Int} {k : Nat} {x : Int} (h : l[k]? = some x) : (ints l).getD k [] = ei x := by
  rw [List.getD_eq_getElem?_getD]; simp [ints, h]

theorem f8 (l : List Cm) (nl : Option Bool) (t : Bool) : call E 8 [.c (.sl 2 nl t (repo l))] [] = some ([V.b (few l)], []) := by
  refine call_of (E := E) (sh := sh) (ct := ctOf []) (na := 1) (m := 0) ctOf_nil rfl rfl rfl rfl rfl rfl ?_
  rw [t8', fd_br]
  by_cases h : 60 < l.length
  · rw [if_pos (by simp only [repo_length, decide_eq_true_eq]; omega), fd_leaf]
    simp [few, h]
    omega
  · rw [if_neg (by simp only [repo_length, decide_eq_true_eq]; omega)]
    have hloop := loop_list (p := p8) ctOf_nil (b := b8'_0) l (fun k (_ : Unit) => s8'_0 nl t (repo l) k) (fun _ _ => True)
      (fun r _ => if r.all (fun c => decide (c.1.length ≤ 10)) then x8'_0x1 nl t (repo l) l.length else x8'_0x0)
      (by
        intro k _ c hc hk _
        have hw := wrap_same (n := (k : Int) + 1) (by omega) (by omega)
        simp only [t8'_0, ld_br, ld_chk', ld_leaf, repo_length, repo_at hc, Int.toNat_natCast, hk, ec_ok, ec_par, ints_length, hw, Int.ofNat_lt, decide_true, Int.natCast_nonneg, if_true, List.all_cons, Bool.and_eq_true, decide_eq_true_eq]
        by_cases h10 : c.1.length ≤ 10
        · exact .inl ⟨(), trivial, by simp only [h10, true_and], by rw [if_neg (by omega)]; rfl⟩
        · exact .inr ⟨by simp [h10], by rw [if_pos (by omega), if_neg (by simp [h10])]⟩)
      (by
        intro _ _
        simp [t8'_0, ld_br, ld_leaf]) () trivial
    cases hall : l.all (fun c => decide (c.1.length ≤ 10)) <;> simp only [hall, Bool.false_eq_true, if_false, if_true] at hloop
    · exact fd_ls (p := p8) ctOf_nil (by kernel_rfl) hloop (by rw [k8'_0x0, fd_leaf]; simp [few, hall]) rfl
    · exact fd_ls (p := p8) ctOf_nil (by kernel_rfl) hloop (by rw [k8'_0x1, fd_leaf]; simp [few, hall]; omega) rfl

theorem s42_ok : CSpecOk E 42 s42 := by
  intro a h cs vals h' he hc
  unfold s42 at he
  split at he <;> simp only [Option.some.injEq, Prod.mk.injEq, reduceCtorEq] at he
  obtain ⟨rfl, rfl, rfl⟩ := he
  simp only [allT, Bool.and_eq_true, decide_eq_true_eq, and_true] at hc
  obtain ⟨h1, h2, h3, h4⟩ := hc
  rename_i nl t xs nl2 t2 ps st
  have := f42 (toRepo xs) nl t nl2 t2 (toInts ps, st) (by rw [toRepo_length]; exact h2) (by rw [toInts_length]; exact h4)
  rwa [← repo_of h1, ← ints_of h3] at this

/-- no parent list is too great to be counted -/
def Small (l : List Cm) : Prop := ∀ c ∈ l, c.1.length ≤ 4294967296

theorem f26 (l : List Cm) (nl : Option Bool) (t : Bool) (hs : Small l) : call E 26 [.c (.sl 2 nl t (repo l))] [] = some ([V.i (checkG l).1, V.i (checkG l).2], []) := by
  have hct : CT.ok E (ctOf [(42, s42)]) := ctOf_cons s42_ok ctOf_nil
  refine call_of (E := E) (sh := sh) (ct := ctOf [(42, s42)]) (na := 1) (m := 0) hct rfl rfl rfl rfl rfl rfl ?_
  rw [t26, fd_br]
  by_cases h : 500 < l.length
  · rw [if_pos (by simp only [repo_length, decide_eq_true_eq]; omega), fd_leaf]
    simp [checkG, h]
  · rw [if_neg (by simp only [repo_length, decide_eq_true_eq]; omega)]
    have hloop := loop_list (p := p26) hct (b := b26_0) l (fun k (_ : Unit) => s26_0 nl t (repo l) l.length k) (fun _ _ => True)
      (fun r _ => if (checkFrom l r.length (l.length - r.length)).2 = 0 then x26_0x1 nl t (repo l) l.length l.length
        else x26_0x0 (checkFrom l r.length (l.length - r.length)).1 (checkFrom l r.length (l.length - r.length)).2 none (ints (l.getD ((checkFrom l r.length (l.length - r.length)).1 - 1).toNat ([], 0)).1) (l.getD ((checkFrom l r.length (l.length - r.length)).1 - 1).toNat ([], 0)).2)
      (by
        intro k _ c hc hk _
        have hw := wrap_same (n := (k : Int) + 1) (by omega) (by omega)
        have hmem : c ∈ l := List.mem_of_getElem? hc
        have e1 : (c :: l.drop (k + 1)).length = (l.length - (k + 1)) + 1 := by simp
        have e2 : l.length - (l.length - (k + 1) + 1) = k := by omega
        have e3 : (l.drop (k + 1)).length = l.length - (k + 1) := by simp
        have e4 : l.length - (l.length - (k + 1)) = k + 1 := by omega
        rw [e1, e2, e3, e4]
        simp only [t26_0, ld_br, ld_chk', ld_leaf, repo_length, repo_at hc, Int.toNat_natCast, hk, ec_ok, ec_par, ec_stamp, ints_length, hw, Int.ofNat_lt, decide_true, Int.natCast_nonneg, if_true, Nat.le_of_lt hk, repo_take, isRepo_repo, isInts_ints, toRepo_repo, toInts_ints, checkFrom, getD_of hc, decide_eq_true_eq, hs c hmem, List.length_take, show min k l.length ≤ 500 by omega]
        by_cases hf : faultG (l.take k) c = 0
        · exact .inl ⟨(), trivial, by rw [if_pos hf], by rw [if_neg (by simp [hf])]; rfl⟩
        · rw [if_neg hf]
          simp only [if_neg hf]
          refine .inr ⟨by simp, ?_⟩
          rw [if_pos (by simpa using hf)]
          simp [hc])
      (by
        intro _ _
        simp [t26_0, ld_br, ld_leaf, checkFrom]) () trivial
    rw [Nat.sub_self] at hloop
    unfold checkG
    rw [if_neg h]
    rw [repo_length]
    by_cases hz' : (checkFrom l l.length 0).2 = 0
    case neg =>
      rw [if_neg hz'] at hloop
      exact fd_ls (p := p26) hct (by kernel_rfl) hloop (by rw [k26_0x0, fd_leaf]) rfl
    · rw [if_pos hz'] at hloop
      refine fd_ls (p := p26) hct (by kernel_rfl) hloop ?_ rfl
      rw [k26_0x1, fd_leaf]
      have : ∀ n i, (checkFrom l n i).2 = 0 → (checkFrom l n i).1 = l.length := by
        intro n
        induction n with
        | zero => intro i _; rfl
        | succ n ih =>
          intro i
          simp only [checkFrom]
          split
          · exact ih _
          · intro hh; simp only at hh; contradiction
      rw [this _ _ hz', hz', repo_length]
end Go.Proofs.Ytkdinelcmanfcaa
