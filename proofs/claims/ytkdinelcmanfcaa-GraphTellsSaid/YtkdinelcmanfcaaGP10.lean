/-
  Chapter 12 (graph): the reference's functions.
-/
import Derived.Test.YtkdinelcmanfcaaGP9
import Derived.Test.YtkdinelcmanfcaaGP40
set_option linter.unusedSimpArgs false
set_option linter.unusedVariables false
namespace Go.Proofs.Ytkdinelcmanfcaa
open Go Go.Ev

theorem s27_ok : CSpecOk E 27 s27 := by
  intro a h cs vals h' he hc
  unfold s27 s26 at he
  split at he <;> simp only [Option.some.injEq, Prod.mk.injEq, reduceCtorEq] at he
  obtain ⟨rfl, rfl, rfl⟩ := he
  simp only [allT, Bool.and_eq_true, and_true] at hc
  rename_i nl t xs
  have := f27 (toRepo xs) nl t hc.2
  rwa [← repo_of hc.1] at this
theorem f48 (l : List Cm) (nl : Option Bool) (t : Bool) (hs : smallB l = true) : call E 48 [.c (.sl 2 nl t (repo l))] [] = some ([V.b (right l)], []) := by
  refine call_of (E := E) (sh := sh) (ct := ctOf [(27, s27)]) (na := 1) (m := 0) (ctOf_cons s27_ok ctOf_nil) rfl rfl rfl rfl rfl rfl ?_
  simp only [t48, ld_br, ld_chk', ld_leaf, fd_br, fd_chk', fd_leaf, decide_true, decide_eq_true_eq, if_true, Int.toNat_natCast, Int.natCast_nonneg, Int.ofNat_lt, Bool.false_eq_true, if_false, bne_iff_ne, beq_iff_eq, ne_eq, not_true_eq_false, not_false_eq_true, Bool.not_eq_true', decide_eq_false_iff_not, reduceCtorEq, repo_length, ints_length, ec_ok, ec_par, ec_stamp, ei_ok, ei_i, isRepo_repo, isInts_ints, toRepo_repo, toInts_ints, repo_take, repo_drop, ints_take, ints_drop, ints_append, mk_headD, ei_len, ei_take, Nat.zero_add, Nat.le_refl, List.take_length, ints_snoc, ints_snoc', hs, right]
theorem s48_ok : CSpecOk E 48 s48 := by
  intro a h cs vals h' he hc
  unfold s48 at he
  split at he <;> simp only [Option.some.injEq, Prod.mk.injEq, reduceCtorEq] at he
  obtain ⟨rfl, rfl, rfl⟩ := he
  simp only [allT, Bool.and_eq_true, and_true] at hc
  rename_i nl t xs
  have := f48 (toRepo xs) nl t hc.2
  rwa [← repo_of hc.1] at this
theorem f35 (l : List Cm) (nl : Option Bool) (t : Bool) (n : Int) (hs : smallB l = true) : call E 35 [.c (.sl 2 nl t (repo l)), V.i n] [] = some ([V.b (hasG l [n])], []) := by
  refine call_of (E := E) (sh := sh) (ct := ctOf [(48, s48)]) (na := 2) (m := 0) (ctOf_cons s48_ok ctOf_nil) rfl rfl rfl rfl rfl rfl ?_
  simp only [t35, ld_br, ld_chk', ld_leaf, fd_br, fd_chk', fd_leaf, decide_true, decide_eq_true_eq, if_true, Int.toNat_natCast, Int.natCast_nonneg, Int.ofNat_lt, Bool.false_eq_true, if_false, bne_iff_ne, beq_iff_eq, ne_eq, not_true_eq_false, not_false_eq_true, Bool.not_eq_true', decide_eq_false_iff_not, reduceCtorEq, repo_length, ints_length, ec_ok, ec_par, ec_stamp, ei_ok, ei_i, isRepo_repo, isInts_ints, toRepo_repo, toInts_ints, repo_take, repo_drop, ints_take, ints_drop, ints_append, mk_headD, ei_len, ei_take, Nat.zero_add, Nat.le_refl, List.take_length, ints_snoc, ints_snoc', hs, hasG, List.any_cons, List.any_nil, Bool.or_false]
  by_cases h1 : 1 ≤ n
  · by_cases h2 : n ≤ l.length
    · rw [if_pos h1, if_pos h2, noNum_iff.2 ⟨h1, h2⟩]; simp
    · rw [if_pos h1, if_neg h2]
      have : noNum l.length n = true := by simp [noNum]; omega
      rw [this]; simp
  · rw [if_neg h1]
    have : noNum l.length n = true := by simp [noNum]; omega
    rw [this]; simp
theorem s35_ok : CSpecOk E 35 s35 := by
  intro a h cs vals h' he hc
  unfold s35 at he
  split at he <;> simp only [Option.some.injEq, Prod.mk.injEq, reduceCtorEq] at he
  obtain ⟨rfl, rfl, rfl⟩ := he
  simp only [allT, Bool.and_eq_true, and_true] at hc
  rename_i nl t xs n
  have := f35 (toRepo xs) nl t n hc.2
  rwa [← repo_of hc.1] at this

/-! ## Gens -/
def Mid (k : Nat) (out : List Int) : Prop := out.length = k ∧ ∀ j, j < k → 1 ≤ out.getD j 0 ∧ out.getD j 0 ≤ k
theorem maxP_low {k : Nat} {out : List Int} (h : Mid k out) : ∀ (ps : List Int) (g : Int), (∀ p ∈ ps, 1 ≤ p ∧ p ≤ k) → 0 ≤ g → g ≤ k → 0 ≤ maxP out ps g ∧ maxP out ps g ≤ k
  | [], g, _, h1, h2 => ⟨h1, h2⟩
  | p :: ps, g, hp, h1, h2 => by
    simp only [maxP]
    have hq := hp p (by simp)
    have := h.2 (p - 1).toNat (by omega)
    refine maxP_low h ps _ (fun p h => hp p (by simp [h])) ?_ ?_ <;> (split <;> omega)
theorem loop36_0 (l : List Cm) (nl : Option Bool) (t : Bool) (k : Nat) (c : Cm) (hc : l[k]? = some c) (hk5 : k ≤ 500) (hp : ∀ p ∈ c.1, 1 ≤ p ∧ p ≤ k) (hps : c.1.length ≤ 2) (out : List Int) (ho : Mid k out) (g : Int) :
    p36.Loops b36_0_0 (s36_0_0 nl t (repo l) k k (ints out) g 0) (x36_0_0x0 nl t (repo l) k k (ints out) (maxP out c.1 g) c.1.length) := by
  have hk : k < l.length := (List.getElem?_eq_some_iff.1 hc).1
  exact loop_list (p := p36) ctOf_nil (b := b36_0_0) c.1 (fun j (g : Int) => s36_0_0 nl t (repo l) k k (ints out) g j) (fun _ _ => True)
    (fun r g => x36_0_0x0 nl t (repo l) k k (ints out) (maxP out r g) c.1.length)
    (by
      intro j g p hj hlt _
      have hq := hp p (List.mem_of_getElem? hj)
      have hw := wrap_same (n := (j : Int) + 1) (by omega) (by omega)
      have hw2 := wrap_same (n := p - 1) (by omega) (by omega)
      have h3 : (p - 1).toNat < out.length := by rw [ho.1]; omega
      refine .inl ⟨if g < out.getD (p - 1).toNat 0 then out.getD (p - 1).toNat 0 else g, trivial, rfl, ?_⟩
      simp only [t36_0_0, ld_br, ld_chk', ld_leaf, fd_br, fd_chk', fd_leaf, decide_true, decide_eq_true_eq, if_true, Int.toNat_natCast, Int.natCast_nonneg, Int.ofNat_lt, Bool.false_eq_true, if_false, bne_iff_ne, beq_iff_eq, ne_eq, not_true_eq_false, not_false_eq_true, Bool.not_eq_true', decide_eq_false_iff_not, reduceCtorEq, repo_length, ints_length, ec_ok, ec_par, ec_stamp, ei_ok, ei_i, isRepo_repo, isInts_ints, toRepo_repo, toInts_ints, repo_take, repo_drop, ints_take, ints_drop, ints_append, mk_headD, ei_len, ei_take, Nat.zero_add, Nat.le_refl, List.take_length, ints_snoc, ints_snoc', hk, repo_at hc, hlt, ints_at hj, hw, hw2, h3, ints_get h3]
      simp (disch := omega) only [if_pos]
      rfl)
    (by
      intro g _
      simp only [t36_0_0, ld_br, ld_chk', ld_leaf, fd_br, fd_chk', fd_leaf, decide_true, decide_eq_true_eq, if_true, Int.toNat_natCast, Int.natCast_nonneg, Int.ofNat_lt, Bool.false_eq_true, if_false, bne_iff_ne, beq_iff_eq, ne_eq, not_true_eq_false, not_false_eq_true, Bool.not_eq_true', decide_eq_false_iff_not, reduceCtorEq, repo_length, ints_length, ec_ok, ec_par, ec_stamp, ei_ok, ei_i, isRepo_repo, isInts_ints, toRepo_repo, toInts_ints, repo_take, repo_drop, ints_take, ints_drop, ints_append, mk_headD, ei_len, ei_take, Nat.zero_add, Nat.le_refl, List.take_length, ints_snoc, ints_snoc', hk, repo_at hc, Int.lt_irrefl, maxP]
      exact ⟨by simp, trivial⟩) g trivial
theorem gensR_len : ∀ (r : List Cm) (out : List Int), (gensR r out).length = out.length + r.length
  | [], out => rfl
  | c :: r, out => by rw [gensR, gensR_len r]; simp; omega
theorem f36 (l : List Cm) (nl : Option Bool) (t : Bool) (hr : right l = true) : call E 36 [.c (.sl 2 nl t (repo l))] [] = some ([.c (.sl 1 none false (ints (gensR l [])))], []) := by
  refine call_of (E := E) (sh := sh) (ct := ctOf []) (na := 1) (m := 0) ctOf_nil rfl rfl rfl rfl rfl rfl ?_
  rw [t36]
  have hl := right_len hr
  have hloop := loop_list (p := p36) ctOf_nil (b := b36_0) l (fun k (out : List Int) => s36_0 nl t (repo l) k k (ints out)) (fun k out => Mid k out)
    (fun r out => x36_0x0 nl t (repo l) l.length l.length (ints (gensR r out)))
    (by
      intro k out c hc hk ho
      have hf := right_fault hr hk
      rw [getD_of hc] at hf
      have hpar := right_par hr hc
      have hb := maxP_low ho c.1 0 hpar (by omega) (by omega)
      have hw := wrap_same (n := (k : Int) + 1) (by omega) (by omega)
      have hw2 := wrap_same (n := maxP out c.1 0 + 1) (by omega) (by omega)
      refine .inl ⟨out ++ [maxP out c.1 0 + 1], ⟨by simp [ho.1], fun j hj => ?_⟩, rfl, ?_⟩
      · rw [List.getD_eq_getElem?_getD]
        rcases Nat.lt_or_ge j out.length with h | h
        · rw [List.getElem?_append_left h, ← List.getD_eq_getElem?_getD]
          have := ho.2 j (by rw [← ho.1]; exact h)
          omega
        · rw [List.getElem?_append_right h]
          have : j - out.length = 0 := by have := ho.1; omega
          rw [this]
          simp only [List.getElem?_cons_zero, Option.getD_some]
          omega
      · simp only [t36_0, ld_br, ld_chk', ld_leaf, fd_br, fd_chk', fd_leaf, decide_true, decide_eq_true_eq, if_true, Int.toNat_natCast, Int.natCast_nonneg, Int.ofNat_lt, Bool.false_eq_true, if_false, bne_iff_ne, beq_iff_eq, ne_eq, not_true_eq_false, not_false_eq_true, Bool.not_eq_true', decide_eq_false_iff_not, reduceCtorEq, repo_length, ints_length, ec_ok, ec_par, ec_stamp, ei_ok, ei_i, isRepo_repo, isInts_ints, toRepo_repo, toInts_ints, repo_take, repo_drop, ints_take, ints_drop, ints_append, mk_headD, ei_len, ei_take, Nat.zero_add, Nat.le_refl, List.take_length, ints_snoc, ints_snoc', hk]
        refine ld_ls (p := p36) ctOf_nil (by kernel_rfl) (loop36_0 l nl t k c hc (by omega) hpar (fault_zero hf).2.2.1 out ho 0) ?_ rfl
        simp only [k36_0_0x0, ld_br, ld_chk', ld_leaf, fd_br, fd_chk', fd_leaf, decide_true, decide_eq_true_eq, if_true, Int.toNat_natCast, Int.natCast_nonneg, Int.ofNat_lt, Bool.false_eq_true, if_false, bne_iff_ne, beq_iff_eq, ne_eq, not_true_eq_false, not_false_eq_true, Bool.not_eq_true', decide_eq_false_iff_not, reduceCtorEq, repo_length, ints_length, ec_ok, ec_par, ec_stamp, ei_ok, ei_i, isRepo_repo, isInts_ints, toRepo_repo, toInts_ints, repo_take, repo_drop, ints_take, ints_drop, ints_append, mk_headD, ei_len, ei_take, Nat.zero_add, Nat.le_refl, List.take_length, ints_snoc, ints_snoc', hw, hw2]
        simp (disch := omega) only [if_pos]
        rw [List.take_of_length_le (by simp [ho.1])]
        rfl)
    (by
      intro out _
      simp only [t36_0, ld_br, ld_chk', ld_leaf, fd_br, fd_chk', fd_leaf, decide_true, decide_eq_true_eq, if_true, Int.toNat_natCast, Int.natCast_nonneg, Int.ofNat_lt, Bool.false_eq_true, if_false, bne_iff_ne, beq_iff_eq, ne_eq, not_true_eq_false, not_false_eq_true, Bool.not_eq_true', decide_eq_false_iff_not, reduceCtorEq, repo_length, ints_length, ec_ok, ec_par, ec_stamp, ei_ok, ei_i, isRepo_repo, isInts_ints, toRepo_repo, toInts_ints, repo_take, repo_drop, ints_take, ints_drop, ints_append, mk_headD, ei_len, ei_take, Nat.zero_add, Nat.le_refl, List.take_length, ints_snoc, ints_snoc', Int.lt_irrefl, gensR]
      exact ⟨by simp, trivial⟩) [] ⟨rfl, fun j hj => by omega⟩
  refine fd_ls (p := p36) ctOf_nil (by kernel_rfl) hloop ?_ rfl
  rw [k36_0x0, fd_leaf, List.take_of_length_le (by simp [gensR_len])]
theorem s36_ok : CSpecOk E 36 s36 := by
  intro a h cs vals h' he hc
  unfold s36 at he
  split at he <;> simp only [Option.some.injEq, Prod.mk.injEq, reduceCtorEq] at he
  obtain ⟨rfl, rfl, rfl⟩ := he
  simp only [allT, Bool.and_eq_true, and_true] at hc
  rename_i nl t xs
  have := f36 (toRepo xs) nl t hc.2
  rwa [← repo_of hc.1] at this
theorem f15 (l : List Cm) (nl : Option Bool) (t : Bool) (n : Int) (hs : smallB l = true) : call E 15 [.c (.sl 2 nl t (repo l)), V.i n] [] = some ([V.i (genR l n)], []) := by
  refine call_of (E := E) (sh := sh) (ct := ctOf [(35, s35), (36, s36)]) (na := 2) (m := 0) (ctOf_cons s35_ok (ctOf_cons s36_ok ctOf_nil)) rfl rfl rfl rfl rfl rfl ?_
  simp only [t15, ld_br, ld_chk', ld_leaf, fd_br, fd_chk', fd_leaf, decide_true, decide_eq_true_eq, if_true, Int.toNat_natCast, Int.natCast_nonneg, Int.ofNat_lt, Bool.false_eq_true, if_false, bne_iff_ne, beq_iff_eq, ne_eq, not_true_eq_false, not_false_eq_true, Bool.not_eq_true', decide_eq_false_iff_not, reduceCtorEq, repo_length, ints_length, ec_ok, ec_par, ec_stamp, ei_ok, ei_i, isRepo_repo, isInts_ints, toRepo_repo, toInts_ints, repo_take, repo_drop, ints_take, ints_drop, ints_append, mk_headD, ei_len, ei_take, Nat.zero_add, Nat.le_refl, List.take_length, ints_snoc, ints_snoc', hs, genR]
  cases h : hasG l [n] with
  | false => rfl
  | true =>
    obtain ⟨h1, h2⟩ := has_right h
    have ha := noNum_iff.1 (h2 n (by simp))
    have hl := right_len h1
    have hw := wrap_same (n := n - 1) (by omega) (by omega)
    have hlt : (n - 1).toNat < (gensR l []).length := by rw [gensR_len]; simp; omega
    simp only [ld_br, ld_chk', ld_leaf, fd_br, fd_chk', fd_leaf, decide_true, decide_eq_true_eq, if_true, Int.toNat_natCast, Int.natCast_nonneg, Int.ofNat_lt, Bool.false_eq_true, if_false, bne_iff_ne, beq_iff_eq, ne_eq, not_true_eq_false, not_false_eq_true, Bool.not_eq_true', decide_eq_false_iff_not, reduceCtorEq, h1, hw, hlt, ints_get hlt, repo_length, ints_length, ec_ok, ec_par, ec_stamp, ei_ok, ei_i, isRepo_repo, isInts_ints, toRepo_repo, toInts_ints, repo_take, repo_drop, ints_take, ints_drop, ints_append, mk_headD, ei_len, ei_take, Nat.zero_add, Nat.le_refl, List.take_length, ints_snoc, ints_snoc']
    simp (disch := omega) only [if_pos]

/-! ## Reaches -/
theorem s40_ok : CSpecOk E 40 s40 := by
  intro a h cs vals h' he hc
  unfold s40 at he
  split at he <;> simp only [Option.some.injEq, Prod.mk.injEq, reduceCtorEq] at he
  obtain ⟨rfl, rfl, rfl⟩ := he
  simp only [allT, Bool.and_eq_true, and_true, decide_eq_true_eq] at hc
  rename_i nl t xs n
  have := f40 (toInts xs) nl t n (by rw [toInts_length]; exact hc.2)
  rwa [← ints_of hc.1] at this
def reachesOpen (l : List Cm) : Nat → List Int → List Int
  | 0, open' => open'
  | k + 1, open' => reachesOpen l k (if open'.contains ((k + 1 : Nat) : Int) then open' ++ (l.getD k ([], 0)).1 else open')
theorem reachesFrom_len (l : List Cm) : ∀ (k : Nat) (o out : List Int), (reachesFrom l k o out).length ≤ out.length + k
  | 0, o, out => by simp [reachesFrom]
  | k + 1, o, out => by
    simp only [reachesFrom]
    split
    · have := reachesFrom_len l k (o ++ (l.getD k ([], 0)).1) (((k + 1 : Nat) : Int) :: out)
      simp only [List.length_cons] at this
      omega
    · have := reachesFrom_len l k o out
      omega
theorem ints_cons (n : Int) (l : List Int) : [C.int .i64 n] :: ints l = ints (n :: l) := by simp [ints, ei]
theorem f39 (l : List Cm) (nl : Option Bool) (t : Bool) (n : Int) (hr : right l = true) (hn : noNum l.length n = false) : call E 39 [.c (.sl 2 nl t (repo l)), V.i n] [] = some ([.c (.sl 1 none false (ints (reachesR l n)))], []) := by
  have hct : CT.ok E (ctOf [(40, s40)]) := ctOf_cons s40_ok ctOf_nil
  refine call_of (E := E) (sh := sh) (ct := ctOf [(40, s40)]) (na := 2) (m := 0) hct rfl rfl rfl rfl rfl rfl ?_
  rw [t39]
  have hl := right_len hr
  have hn := noNum_iff.1 hn
  have hloop := loops_of (p := p39) hct (b := b39_0) (fun i : Nat × List Int × List Int => s39_0 nl t (repo l) i.1 i.2.1.length i.2.2.length (ints i.2.1) (ints i.2.2)) (fun i => i.1 ≤ l.length ∧ i.2.1.length + 2 * i.1 ≤ 1001 ∧ i.2.2.length + i.1 ≤ 500) (fun i => i.1)
    (fun i => x39_0x0 nl t (repo l) 0 (reachesOpen l i.1 i.2.1).length (reachesFrom l i.1 i.2.1 i.2.2).length (ints (reachesOpen l i.1 i.2.1)) (ints (reachesFrom l i.1 i.2.1 i.2.2)))
    (by
      rintro ⟨k, o, out⟩ ⟨h1, h2, h3⟩
      simp only at h1 h2 h3
      cases k with
      | zero =>
        refine .inr ⟨by simp, ?_⟩
        show p39.ld b39_0 (p39.lts b39_0 (s39_0 nl t (repo l) 0 o.length out.length (ints o) (ints out))) = _
        simp only [t39_0, ld_br, ld_chk', ld_leaf, fd_br, fd_chk', fd_leaf, decide_true, decide_eq_true_eq, if_true, Int.toNat_natCast, Int.natCast_nonneg, Int.ofNat_lt, Bool.false_eq_true, if_false, bne_iff_ne, beq_iff_eq, ne_eq, not_true_eq_false, not_false_eq_true, Bool.not_eq_true', decide_eq_false_iff_not, reduceCtorEq]
        simp (disch := omega) only [if_neg]
        rfl
      | succ k =>
        obtain ⟨c, hc⟩ : ∃ c, l[k]? = some c := ⟨l[k], List.getElem?_eq_getElem (by omega)⟩
        have hk : k < l.length := by omega
        have hw2 : ((k + 1 : Nat) : Int) - 1 = (k : Nat) := by omega
        have hw := wrap_same (n := (k : Nat)) (by omega) (by omega)
        have hf := right_fault hr hk
        rw [getD_of hc] at hf
        have hps := (fault_zero hf).2.2.1
        refine .inl ⟨(k, if o.contains ((k + 1 : Nat) : Int) then o ++ (l.getD k ([], 0)).1 else o, if o.contains ((k + 1 : Nat) : Int) then ((k + 1 : Nat) : Int) :: out else out), ⟨by omega, ?_, ?_⟩, by simp, ?_, ?_⟩
        · dsimp only
          rw [getD_of hc]
          split
          · simp; omega
          · omega
        · dsimp only
          split
          · simp; omega
          · omega
        · dsimp only
          simp only [reachesOpen, reachesFrom]
          cases o.contains ((k + 1 : Nat) : Int) <;> rfl
        · show p39.ld b39_0 (p39.lts b39_0 (s39_0 nl t (repo l) ((k + 1 : Nat) : Int) o.length out.length (ints o) (ints out))) = _
          simp only [t39_0, ld_br, ld_chk', ld_leaf, fd_br, fd_chk', fd_leaf, decide_true, decide_eq_true_eq, if_true, Int.toNat_natCast, Int.natCast_nonneg, Int.ofNat_lt, Bool.false_eq_true, if_false, bne_iff_ne, beq_iff_eq, ne_eq, not_true_eq_false, not_false_eq_true, Bool.not_eq_true', decide_eq_false_iff_not, reduceCtorEq, repo_length, ints_length, ec_ok, ec_par, ec_stamp, ei_ok, ei_i, isRepo_repo, isInts_ints, toRepo_repo, toInts_ints, repo_take, repo_drop, ints_take, ints_drop, ints_append, mk_headD, ei_len, ei_take, Nat.zero_add, Nat.le_refl, List.take_length, ints_snoc, ints_snoc', hw2, hw, hk, repo_at hc, getD_of hc, List.length_take, Nat.min_self]
          simp (disch := omega) only [if_pos]
          cases hb : o.contains ((k + 1 : Nat) : Int)
          · simp only [if_true, ld_br, ld_chk', ld_leaf, fd_br, fd_chk', fd_leaf, decide_true, decide_eq_true_eq, if_true, Int.toNat_natCast, Int.natCast_nonneg, Int.ofNat_lt, Bool.false_eq_true, if_false, bne_iff_ne, beq_iff_eq, ne_eq, not_true_eq_false, not_false_eq_true, Bool.not_eq_true', decide_eq_false_iff_not, reduceCtorEq]
          · simp only [ld_br, ld_chk', ld_leaf, fd_br, fd_chk', fd_leaf, decide_true, decide_eq_true_eq, if_true, Int.toNat_natCast, Int.natCast_nonneg, Int.ofNat_lt, Bool.false_eq_true, if_false, bne_iff_ne, beq_iff_eq, ne_eq, not_true_eq_false, not_false_eq_true, Bool.not_eq_true', decide_eq_false_iff_not, reduceCtorEq, ints_cons]
            simp [Nat.add_comm]) (n.toNat, [n], []) ⟨by dsimp only; omega, by simp; omega, by simp; omega⟩
  dsimp only at hloop
  rw [show ((n.toNat : Nat) : Int) = n by omega] at hloop
  refine fd_ls (p := p39) hct (by kernel_rfl) hloop ?_ rfl
  rw [k39_0x0, fd_leaf, List.take_of_length_le (by simp)]
  rfl
theorem s39_ok : CSpecOk E 39 s39 := by
  intro a h cs vals h' he hc
  unfold s39 at he
  split at he <;> simp only [Option.some.injEq, Prod.mk.injEq, reduceCtorEq] at he
  obtain ⟨rfl, rfl, rfl⟩ := he
  simp only [allT, Bool.and_eq_true, and_true, Bool.not_eq_true'] at hc
  rename_i nl t xs n
  have := f39 (toRepo xs) nl t n hc.2.1 (by rw [toRepo_length]; exact hc.2.2)
  rwa [← repo_of hc.1] at this
theorem f17 (l : List Cm) (nl : Option Bool) (t : Bool) (n : Int) (hs : smallB l = true) : call E 17 [.c (.sl 2 nl t (repo l)), V.i n] [] = some ([.c (.sl 1 none false (ints (reachR l n)))], []) := by
  refine call_of (E := E) (sh := sh) (ct := ctOf [(35, s35), (39, s39)]) (na := 2) (m := 0) (ctOf_cons s35_ok (ctOf_cons s39_ok ctOf_nil)) rfl rfl rfl rfl rfl rfl ?_
  simp only [t17, ld_br, ld_chk', ld_leaf, fd_br, fd_chk', fd_leaf, decide_true, decide_eq_true_eq, if_true, Int.toNat_natCast, Int.natCast_nonneg, Int.ofNat_lt, Bool.false_eq_true, if_false, bne_iff_ne, beq_iff_eq, ne_eq, not_true_eq_false, not_false_eq_true, Bool.not_eq_true', decide_eq_false_iff_not, reduceCtorEq, repo_length, ints_length, ec_ok, ec_par, ec_stamp, ei_ok, ei_i, isRepo_repo, isInts_ints, toRepo_repo, toInts_ints, repo_take, repo_drop, ints_take, ints_drop, ints_append, mk_headD, ei_len, ei_take, Nat.zero_add, Nat.le_refl, List.take_length, ints_snoc, ints_snoc', hs, reachR]
  cases h : hasG l [n] with
  | false => rfl
  | true =>
    obtain ⟨h1, h2⟩ := has_right h
    simp only [h1, h2 n (by simp), ld_br, ld_chk', ld_leaf, fd_br, fd_chk', fd_leaf, decide_true, decide_eq_true_eq, if_true, Int.toNat_natCast, Int.natCast_nonneg, Int.ofNat_lt, Bool.false_eq_true, if_false, bne_iff_ne, beq_iff_eq, ne_eq, not_true_eq_false, not_false_eq_true, Bool.not_eq_true', decide_eq_false_iff_not, reduceCtorEq]
theorem s17_ok : CSpecOk E 17 s17 := by
  intro a h cs vals h' he hc
  unfold s17 at he
  split at he <;> simp only [Option.some.injEq, Prod.mk.injEq, reduceCtorEq] at he
  obtain ⟨rfl, rfl, rfl⟩ := he
  simp only [allT, Bool.and_eq_true, and_true] at hc
  rename_i nl t xs n
  have := f17 (toRepo xs) nl t n hc.2
  rwa [← repo_of hc.1] at this
theorem reachR_len (l : List Cm) (n : Int) : (reachR l n).length ≤ 500 := by
  unfold reachR
  split
  · rename_i h
    obtain ⟨h1, h2⟩ := has_right h
    have ha := noNum_iff.1 (h2 n (by simp))
    have hl := right_len h1
    have := reachesFrom_len l n.toNat [n] []
    unfold reachesR
    simp at this; omega
  · simp
theorem reachesR_len {l : List Cm} {n : Int} (hr : right l = true) (h : noNum l.length n = false) : (reachesR l n).length ≤ 500 := by
  have ha := noNum_iff.1 h
  have hl := right_len hr
  have := reachesFrom_len l n.toNat [n] []
  unfold reachesR
  simp at this; omega
theorem f18 (l : List Cm) (nl : Option Bool) (t : Bool) (a b : Int) (hs : smallB l = true) : call E 18 [.c (.sl 2 nl t (repo l)), V.i a, V.i b] [] = some ([V.b ((reachR l b).contains a)], []) := by
  refine call_of (E := E) (sh := sh) (ct := ctOf [(17, s17), (40, s40)]) (na := 3) (m := 0) (ctOf_cons s17_ok (ctOf_cons s40_ok ctOf_nil)) rfl rfl rfl rfl rfl rfl ?_
  have := reachR_len l b
  simp only [t18, ld_br, ld_chk', ld_leaf, fd_br, fd_chk', fd_leaf, decide_true, decide_eq_true_eq, if_true, Int.toNat_natCast, Int.natCast_nonneg, Int.ofNat_lt, Bool.false_eq_true, if_false, bne_iff_ne, beq_iff_eq, ne_eq, not_true_eq_false, not_false_eq_true, Bool.not_eq_true', decide_eq_false_iff_not, reduceCtorEq, repo_length, ints_length, ec_ok, ec_par, ec_stamp, ei_ok, ei_i, isRepo_repo, isInts_ints, toRepo_repo, toInts_ints, repo_take, repo_drop, ints_take, ints_drop, ints_append, mk_headD, ei_len, ei_take, Nat.zero_add, Nat.le_refl, List.take_length, ints_snoc, ints_snoc', hs]
  simp (disch := omega) only [if_pos]
end Go.Proofs.Ytkdinelcmanfcaa
