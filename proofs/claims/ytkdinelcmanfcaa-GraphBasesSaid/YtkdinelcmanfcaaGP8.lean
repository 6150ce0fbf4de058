/-
  Chapter 12 (graph): Gen, First, AsOf, Bases.
-/
import Derived.Test.YtkdinelcmanfcaaGP7
set_option linter.unusedSimpArgs false
set_option linter.unusedVariables false
namespace Go.Proofs.Ytkdinelcmanfcaa
open Go Go.Ev

theorem genIn_low (i : Nat) (hi : i + 1 < 501) : ∀ (ps gs : List Int), (∀ p ∈ ps, 1 ≤ p ∧ p ≤ i) → gs.length = 501 → (∀ j, j ≠ i + 1 → 0 ≤ gs.getD j 0 ∧ gs.getD j 0 ≤ i) → (0 ≤ gs.getD (i + 1) 0 ∧ gs.getD (i + 1) 0 ≤ i + 1) → Low (i + 1) (genIn i ps gs)
  | [], gs, _, _, h1, h2 => fun j => by
    simp only [genIn]
    by_cases e : j = i + 1
    · subst e; exact h2
    · have := h1 j e; omega
  | p :: ps, gs, hp, hl, h1, h2 => by
    simp only [genIn]
    have hq := hp p (by simp)
    have h3 := h1 p.toNat (by omega)
    refine genIn_low i hi ps _ (fun p h => hp p (by simp [h])) (by simpa using hl) (fun j hj => ?_) ?_
    · rw [getD_set, if_neg (by omega)]; exact h1 j hj
    · rw [getD_set, if_pos ⟨rfl, by omega⟩]; split <;> omega

theorem f12 (l : List Cm) (nl : Option Bool) (t : Bool) (n : Int) (hs : smallB l = true) : call E 12 [.c (.sl 2 nl t (repo l)), V.i n] [] = some ([V.i (genG l n)], []) := by
  refine call_of (E := E) (sh := sh) (ct := ctOf [(32, s32)]) (na := 2) (m := 0) (ctOf_cons s32_ok ctOf_nil) rfl rfl rfl rfl rfl rfl ?_
  simp only [t12, ld_br, ld_chk', ld_leaf, fd_br, fd_chk', fd_leaf, decide_true, decide_eq_true_eq, if_true, Int.toNat_natCast, Int.natCast_nonneg, Int.ofNat_lt, Bool.false_eq_true, if_false, bne_iff_ne, beq_iff_eq, ne_eq, not_true_eq_false, not_false_eq_true, Bool.not_eq_true', decide_eq_false_iff_not, reduceCtorEq, repo_length, ints_length, ec_ok, ec_par, ec_stamp, ei_ok, ei_i, isRepo_repo, isInts_ints, toRepo_repo, toInts_ints, repo_take, repo_drop, ints_take, ints_drop, ints_append, mk_headD, ei_len, ei_take, Nat.zero_add, Nat.le_refl, List.take_length, ints_snoc, ints_snoc', hs, toInts_1, genG]
  cases h : hasG l [n] with
  | false => rfl
  | true =>
    obtain ⟨h1, h2⟩ := has_right h
    have ha := noNum_iff.1 (h2 n (by simp))
    have hl := right_len h1
    simp only [ld_br, ld_chk', ld_leaf, fd_br, fd_chk', fd_leaf, decide_true, decide_eq_true_eq, if_true, Int.toNat_natCast, Int.natCast_nonneg, Int.ofNat_lt, Bool.false_eq_true, if_false, bne_iff_ne, beq_iff_eq, ne_eq, not_true_eq_false, not_false_eq_true, Bool.not_eq_true', decide_eq_false_iff_not, reduceCtorEq]
    simp (disch := omega) only [if_pos]
    obtain ⟨lt, hlt⟩ : ∃ lt, l.take n.toNat = lt := ⟨_, rfl⟩
    have hlen : lt.length = n.toNat := by rw [← hlt, List.length_take]; omega
    have hget : ∀ (k : Nat) (c : Cm), lt[k]? = some c → l[k]? = some c := by
      intro k c hk
      rw [← hlt, List.getElem?_take] at hk
      split at hk
      · exact hk
      · simp at hk
    rw [hlt, rep_ints, marks0_eq]
    generalize cutTight none (t && decide (n.toNat = l.length)) = tt
    have hloop := loop_list (p := p12) (ctOf_cons s32_ok ctOf_nil) (b := b12_0) lt (fun k (gs : List Int) => s12_0 nl n tt (repo lt) lt.length k (ints gs)) (fun k gs => gs.length = 501 ∧ Low k gs)
      (fun r gs => x12_0x0 nl n tt (repo lt) lt.length lt.length (ints (genOut r (lt.length - r.length) gs)))
      (by
        intro k gs c hc hk ⟨hgs, hlow⟩
        have hcl := hget k c hc
        have hw := wrap_same (n := (k : Int) + 1) (by omega) (by omega)
        have e1 : (c :: lt.drop (k + 1)).length = (lt.length - (k + 1)) + 1 := by simp
        have e2 : lt.length - (lt.length - (k + 1) + 1) = k := by omega
        have e3 : (lt.drop (k + 1)).length = lt.length - (k + 1) := by simp
        have e4 : lt.length - (lt.length - (k + 1)) = k + 1 := by omega
        rw [e1, e2]
        have hkl : k < l.length := (List.getElem?_eq_some_iff.1 hcl).1
        have hps := right_fault h1 hkl
        rw [getD_of hcl] at hps
        have hk1 : k + 1 < gs.length := by omega
        have hpar := right_par h1 hcl
        have b1 : ∀ j, j ≠ k + 1 → 0 ≤ (gs.set (k + 1) 1).getD j 0 ∧ (gs.set (k + 1) 1).getD j 0 ≤ k := fun j hj => by
          rw [getD_set, if_neg (by omega)]; exact hlow j
        have b2 : 0 ≤ (gs.set (k + 1) 1).getD (k + 1) 0 ∧ (gs.set (k + 1) 1).getD (k + 1) 0 ≤ k + 1 := by
          rw [getD_set, if_pos ⟨rfl, hk1⟩]; omega
        refine .inl ⟨genIn k c.1 (gs.set (k + 1) 1), ⟨by simpa using hgs, genIn_low k (by omega) c.1 _ hpar (by simpa using hgs) b1 b2⟩, ?_, ?_⟩
        · rw [e3, e4]; rfl
        · simp only [t12_0, ld_br, ld_chk', ld_leaf, fd_br, fd_chk', fd_leaf, decide_true, decide_eq_true_eq, if_true, Int.toNat_natCast, Int.natCast_nonneg, Int.ofNat_lt, Bool.false_eq_true, if_false, bne_iff_ne, beq_iff_eq, ne_eq, not_true_eq_false, not_false_eq_true, Bool.not_eq_true', decide_eq_false_iff_not, reduceCtorEq, repo_length, ints_length, ec_ok, ec_par, ec_stamp, ei_ok, ei_i, isRepo_repo, isInts_ints, toRepo_repo, toInts_ints, repo_take, repo_drop, ints_take, ints_drop, ints_append, mk_headD, ei_len, ei_take, Nat.zero_add, Nat.le_refl, List.take_length, ints_snoc, ints_snoc', hk, repo_at hc, hw, show ((k : Int) + 1).toNat = k + 1 by omega, hk1, ints_get hk1, ei_len, ints_set]
          simp (disch := omega) only [if_pos]
          refine ld_ls (p := p12) (ctOf_cons s32_ok ctOf_nil) (by kernel_rfl) (loop12_0 nl n tt (repo lt) lt.length k c.1 hpar (by omega) (fault_zero hps).2.2.1 _ (by simpa using hgs) b1 b2) ?_ rfl
          rw [k12_0_0x0, ld_leaf, hw]; rfl)
      (by
        intro gs hgs
        simp only [t12_0, ld_br, ld_chk', ld_leaf, fd_br, fd_chk', fd_leaf, decide_true, decide_eq_true_eq, if_true, Int.toNat_natCast, Int.natCast_nonneg, Int.ofNat_lt, Bool.false_eq_true, if_false, bne_iff_ne, beq_iff_eq, ne_eq, not_true_eq_false, not_false_eq_true, Bool.not_eq_true', decide_eq_false_iff_not, reduceCtorEq, repo_length, ints_length, ec_ok, ec_par, ec_stamp, ei_ok, ei_i, isRepo_repo, isInts_ints, toRepo_repo, toInts_ints, repo_take, repo_drop, ints_take, ints_drop, ints_append, mk_headD, ei_len, ei_take, Nat.zero_add, Nat.le_refl, List.take_length, ints_snoc, ints_snoc', Int.lt_irrefl, List.length_nil, Nat.sub_zero, genOut]
        exact ⟨by simp, trivial⟩) marks0 ⟨marks0_len, fun j => by
          unfold marks0
          rw [List.getD_eq_getElem?_getD, List.getElem?_replicate]
          split <;> simp⟩
    rw [Nat.sub_self] at hloop
    refine fd_ls (p := p12) (ctOf_cons s32_ok ctOf_nil) (by kernel_rfl) hloop ?_ rfl
    have hg : (genOut lt 0 marks0).length = 501 := by
      have : ∀ (r : List Cm) (i : Nat) (gs : List Int), (genOut r i gs).length = gs.length := by
        intro r
        induction r with
        | nil => intro i gs; rfl
        | cons c r ih => intro i gs; simp [genOut, ih]
      rw [this, marks0_len]
    have hi : n.toNat < (genOut lt 0 marks0).length := by omega
    simp only [k12_0x0, ld_br, ld_chk', ld_leaf, fd_br, fd_chk', fd_leaf, decide_true, decide_eq_true_eq, if_true, Int.toNat_natCast, Int.natCast_nonneg, Int.ofNat_lt, Bool.false_eq_true, if_false, bne_iff_ne, beq_iff_eq, ne_eq, not_true_eq_false, not_false_eq_true, Bool.not_eq_true', decide_eq_false_iff_not, reduceCtorEq, repo_length, ints_length, ec_ok, ec_par, ec_stamp, ei_ok, ei_i, isRepo_repo, isInts_ints, toRepo_repo, toInts_ints, repo_take, repo_drop, ints_take, ints_drop, ints_append, mk_headD, ei_len, ei_take, Nat.zero_add, Nat.le_refl, List.take_length, ints_snoc, ints_snoc', hi, ints_get hi, ei_len, ei_take, Nat.le_refl]
    simp (disch := omega) only [if_pos]

theorem firstFrom_mem {l : List Cm} (h : right l = true) : ∀ {k : Nat} {p : List Int}, (∀ x ∈ p, 1 ≤ x ∧ x ≤ k) → k ≤ l.length → ∀ x ∈ firstFrom l k p, 1 ≤ x ∧ x ≤ l.length
  | 0, p, hp, hk, x, hx => by simp [firstFrom] at hx
  | k + 1, [], hp, hk, x, hx => by simp [firstFrom] at hx
  | k + 1, p :: ps, hp, hk, x, hx => by
    have h1 := hp p (by simp)
    simp only [firstFrom, List.mem_cons] at hx
    rcases hx with rfl | hx
    · omega
    · have hlt : (p - 1).toNat < l.length := by omega
      have hc : l[(p - 1).toNat]? = some l[(p - 1).toNat] := List.getElem?_eq_getElem hlt
      rw [getD_of hc] at hx
      exact firstFrom_mem h (fun x hx => by have := right_par h hc x hx; omega) (by omega) x hx
theorem firstFrom_len {l : List Cm} : ∀ {k : Nat} {p : List Int}, (firstFrom l k p).length ≤ k
  | 0, p => by simp [firstFrom]
  | k + 1, [] => by simp [firstFrom]
  | k + 1, p :: ps => by simp only [firstFrom, List.length_cons]; have := firstFrom_len (l := l) (k := k) (p := (l.getD (p - 1).toNat ([], 0)).1); omega

theorem f20 (l : List Cm) (nl : Option Bool) (t : Bool) (n : Int) (hs : smallB l = true) : call E 20 [.c (.sl 2 nl t (repo l)), V.i n] [] = some ([.c (.sl 1 none false (ints (firstG l n)))], []) := by
  refine call_of (E := E) (sh := sh) (ct := ctOf [(32, s32)]) (na := 2) (m := 0) (ctOf_cons s32_ok ctOf_nil) rfl rfl rfl rfl rfl rfl ?_
  simp only [t20, ld_br, ld_chk', ld_leaf, fd_br, fd_chk', fd_leaf, decide_true, decide_eq_true_eq, if_true, Int.toNat_natCast, Int.natCast_nonneg, Int.ofNat_lt, Bool.false_eq_true, if_false, bne_iff_ne, beq_iff_eq, ne_eq, not_true_eq_false, not_false_eq_true, Bool.not_eq_true', decide_eq_false_iff_not, reduceCtorEq, repo_length, ints_length, ec_ok, ec_par, ec_stamp, ei_ok, ei_i, isRepo_repo, isInts_ints, toRepo_repo, toInts_ints, repo_take, repo_drop, ints_take, ints_drop, ints_append, mk_headD, ei_len, ei_take, Nat.zero_add, Nat.le_refl, List.take_length, ints_snoc, ints_snoc', hs, toInts_1, firstG]
  cases h : hasG l [n] with
  | false => rfl
  | true =>
    obtain ⟨h1, h2⟩ := has_right h
    have ha := noNum_iff.1 (h2 n (by simp))
    have hl := right_len h1
    have hw := wrap_same (n := n - 1) (by omega) (by omega)
    have hlt : (n - 1).toNat < l.length := by omega
    have hc : l[(n - 1).toNat]? = some l[(n - 1).toNat] := List.getElem?_eq_getElem hlt
    simp only [ld_br, ld_chk', ld_leaf, fd_br, fd_chk', fd_leaf, decide_true, decide_eq_true_eq, if_true, Int.toNat_natCast, Int.natCast_nonneg, Int.ofNat_lt, Bool.false_eq_true, if_false, bne_iff_ne, beq_iff_eq, ne_eq, not_true_eq_false, not_false_eq_true, Bool.not_eq_true', decide_eq_false_iff_not, reduceCtorEq, hw, repo_length, ints_length, ec_ok, ec_par, ec_stamp, ei_ok, ei_i, isRepo_repo, isInts_ints, toRepo_repo, toInts_ints, repo_take, repo_drop, ints_take, ints_drop, ints_append, mk_headD, ei_len, ei_take, Nat.zero_add, Nat.le_refl, List.take_length, ints_snoc, ints_snoc', repo_at hc, hlt, getD_of hc]
    simp (disch := omega) only [if_pos]
    have hloop := loops_of (p := p20) (ctOf_cons s32_ok ctOf_nil) (b := b20_0) (fun i : Nat × List Int × List Int => s20_0 nl t (repo l) i.2.2.length none false (ints i.2.1) (ints i.2.2)) (fun i => (∀ x ∈ i.2.1, 1 ≤ x ∧ x ≤ i.1) ∧ i.1 ≤ l.length ∧ i.2.2.length + i.1 ≤ 501) (fun i => i.1)
      (fun i => x20_0x0 nl t (repo l) (i.2.2 ++ firstFrom l i.1 i.2.1).length none false (ints []) (ints (i.2.2 ++ firstFrom l i.1 i.2.1)))
      (by
        rintro ⟨k, p, out⟩ ⟨h3, h4, h5⟩
        simp only at h3 h4 h5
        cases p with
        | nil =>
          have : firstFrom l k [] = [] := by cases k <;> rfl
          refine .inr ⟨by simp, ?_⟩
          simp only [t20_0, ld_br, ld_chk', ld_leaf, fd_br, fd_chk', fd_leaf, decide_true, decide_eq_true_eq, if_true, Int.toNat_natCast, Int.natCast_nonneg, Int.ofNat_lt, Bool.false_eq_true, if_false, bne_iff_ne, beq_iff_eq, ne_eq, not_true_eq_false, not_false_eq_true, Bool.not_eq_true', decide_eq_false_iff_not, reduceCtorEq, repo_length, ints_length, ec_ok, ec_par, ec_stamp, ei_ok, ei_i, isRepo_repo, isInts_ints, toRepo_repo, toInts_ints, repo_take, repo_drop, ints_take, ints_drop, ints_append, mk_headD, ei_len, ei_take, Nat.zero_add, Nat.le_refl, List.take_length, ints_snoc, ints_snoc', List.length_nil, this, List.append_nil]
          rfl
        | cons p ps =>
          have hp := h3 p (by simp)
          cases k with
          | zero => omega
          | succ k =>
            have hw2 := wrap_same (n := p - 1) (by omega) (by omega)
            have hlt2 : (p - 1).toNat < l.length := by omega
            have hc2 : l[(p - 1).toNat]? = some l[(p - 1).toNat] := List.getElem?_eq_getElem hlt2
            have hg : (ints (p :: ps)).getD (Int.toNat 0) [] = ei p := rfl
            have h0 : Int.toNat 0 < (p :: ps).length := by simp
            refine .inl ⟨(k, (l.getD (p - 1).toNat ([], 0)).1, out ++ [p]), ⟨?_, by dsimp only; omega, by simp; omega⟩, by dsimp only; omega, ?_, ?_⟩
            · dsimp only
              rw [getD_of hc2]
              intro x hx
              have := right_par h1 hc2 x hx
              omega
            · simp only [firstFrom, List.append_assoc, List.cons_append, List.nil_append]
            · simp only [t20_0, ld_br, ld_chk', ld_leaf, fd_br, fd_chk', fd_leaf, decide_true, decide_eq_true_eq, if_true, Int.toNat_natCast, Int.natCast_nonneg, Int.ofNat_lt, Bool.false_eq_true, if_false, bne_iff_ne, beq_iff_eq, ne_eq, not_true_eq_false, not_false_eq_true, Bool.not_eq_true', decide_eq_false_iff_not, reduceCtorEq, repo_length, ints_length, ec_ok, ec_par, ec_stamp, ei_ok, ei_i, isRepo_repo, isInts_ints, toRepo_repo, toInts_ints, repo_take, repo_drop, ints_take, ints_drop, ints_append, mk_headD, ei_len, ei_take, Nat.zero_add, Nat.le_refl, List.take_length, ints_snoc, ints_snoc', hg, h0, hw2, repo_at hc2, hlt2, getD_of hc2]
              simp (disch := omega) only [if_pos]
              simp) (n.toNat, l[(n - 1).toNat].1, [n]) ⟨fun x hx => by have := right_par h1 hc x hx; dsimp only; omega, by dsimp only; omega, by simp; omega⟩
    refine fd_ls (p := p20) (ctOf_cons s32_ok ctOf_nil) (by kernel_rfl) hloop ?_ rfl
    rw [k20_0x0, fd_leaf]
    simp

theorem s20_ok : CSpecOk E 20 s20 := by
  intro a h cs vals h' he hc
  unfold s20 at he
  split at he <;> simp only [Option.some.injEq, Prod.mk.injEq, reduceCtorEq] at he
  obtain ⟨rfl, rfl, rfl⟩ := he
  simp only [allT, Bool.and_eq_true, and_true, decide_eq_true_eq] at hc
  rename_i nl t xs n
  have := f20 (toRepo xs) nl t n hc.2
  rwa [← repo_of hc.1] at this
theorem first_mem {l : List Cm} {n : Int} {x : Int} (hx : x ∈ firstG l n) : right l = true ∧ 1 ≤ x ∧ x ≤ l.length := by
  unfold firstG at hx
  split at hx
  · rename_i h
    obtain ⟨h1, h2⟩ := has_right h
    have ha := noNum_iff.1 (h2 n (by simp))
    simp only [List.mem_cons] at hx
    refine ⟨h1, ?_⟩
    rcases hx with rfl | hx
    · exact ha
    · have hlt : (n - 1).toNat < l.length := by omega
      have hc : l[(n - 1).toNat]? = some l[(n - 1).toNat] := List.getElem?_eq_getElem hlt
      rw [getD_of hc] at hx
      exact firstFrom_mem h1 (fun x hx => by have := right_par h1 hc x hx; omega) (by omega) x hx
  · simp at hx
theorem first_len {l : List Cm} {n : Int} : (firstG l n).length ≤ 501 := by
  unfold firstG
  split
  · rename_i h
    obtain ⟨h1, h2⟩ := has_right h
    have ha := noNum_iff.1 (h2 n (by simp))
    have := right_len h1
    have := firstFrom_len (l := l) (k := n.toNat) (p := (l.getD (n - 1).toNat ([], 0)).1)
    simp only [List.length_cons]
    omega
  · simp

theorem f22 (l : List Cm) (nl : Option Bool) (t : Bool) (n u : Int) (hs : smallB l = true) : call E 22 [.c (.sl 2 nl t (repo l)), V.i n, V.i u] [] = some ([V.i (asOfG l n u)], []) := by
  have hct : CT.ok E (ctOf [(20, s20)]) := ctOf_cons s20_ok ctOf_nil
  refine call_of (E := E) (sh := sh) (ct := ctOf [(20, s20)]) (na := 3) (m := 0) hct rfl rfl rfl rfl rfl rfl ?_
  simp only [t22, ld_br, ld_chk', ld_leaf, fd_br, fd_chk', fd_leaf, decide_true, decide_eq_true_eq, if_true, Int.toNat_natCast, Int.natCast_nonneg, Int.ofNat_lt, Bool.false_eq_true, if_false, bne_iff_ne, beq_iff_eq, ne_eq, not_true_eq_false, not_false_eq_true, Bool.not_eq_true', decide_eq_false_iff_not, reduceCtorEq, repo_length, ints_length, ec_ok, ec_par, ec_stamp, ei_ok, ei_i, isRepo_repo, isInts_ints, toRepo_repo, toInts_ints, repo_take, repo_drop, ints_take, ints_drop, ints_append, mk_headD, ei_len, ei_take, Nat.zero_add, Nat.le_refl, List.take_length, ints_snoc, ints_snoc', hs]
  unfold asOfG
  have hmem : ∀ x ∈ firstG l n, right l = true ∧ 1 ≤ x ∧ x ≤ l.length := fun x hx => first_mem hx
  have hlen := first_len (l := l) (n := n)
  generalize firstG l n = fs at hmem hlen
  have hloop := loop_list (p := p22) hct (b := b22_0) fs (fun k (_ : Unit) => s22_0 nl t (repo l) u none false (ints fs) fs.length k) (fun _ _ => True)
    (fun r _ => if asOfIn l u r = 0 then x22_0x1 nl t (repo l) u none false (ints fs) fs.length fs.length else x22_0x0 (asOfIn l u r))
    (by
      intro k _ x hx hk _
      obtain ⟨h1, h2, h3⟩ := hmem x (List.mem_of_getElem? hx)
      have hl := right_len h1
      have hw := wrap_same (n := (k : Int) + 1) (by omega) (by omega)
      have hw2 := wrap_same (n := x - 1) (by omega) (by omega)
      have hlt : (x - 1).toNat < l.length := by omega
      have hc : l[(x - 1).toNat]? = some l[(x - 1).toNat] := List.getElem?_eq_getElem hlt
      simp only [t22_0, ld_br, ld_chk', ld_leaf, fd_br, fd_chk', fd_leaf, decide_true, decide_eq_true_eq, if_true, Int.toNat_natCast, Int.natCast_nonneg, Int.ofNat_lt, Bool.false_eq_true, if_false, bne_iff_ne, beq_iff_eq, ne_eq, not_true_eq_false, not_false_eq_true, Bool.not_eq_true', decide_eq_false_iff_not, reduceCtorEq, repo_length, ints_length, ec_ok, ec_par, ec_stamp, ei_ok, ei_i, isRepo_repo, isInts_ints, toRepo_repo, toInts_ints, repo_take, repo_drop, ints_take, ints_drop, ints_append, mk_headD, ei_len, ei_take, Nat.zero_add, Nat.le_refl, List.take_length, ints_snoc, ints_snoc', hk, ints_at hx, hw, hw2, hlt, repo_at hc, asOfIn, getD_of hc]
      simp (disch := omega) only [if_pos]
      by_cases hq : l[(x - 1).toNat].2 ≤ u
      · refine .inr ?_
        simp only [if_pos hq]
        rw [if_neg (by omega)]
        exact ⟨by simp, rfl⟩
      · refine .inl ⟨(), trivial, ?_, ?_⟩
        · simp only [if_neg hq]
        · simp only [if_neg hq]; rfl)
    (by
      intro _ _
      simp only [t22_0, ld_br, ld_chk', ld_leaf, fd_br, fd_chk', fd_leaf, decide_true, decide_eq_true_eq, if_true, Int.toNat_natCast, Int.natCast_nonneg, Int.ofNat_lt, Bool.false_eq_true, if_false, bne_iff_ne, beq_iff_eq, ne_eq, not_true_eq_false, not_false_eq_true, Bool.not_eq_true', decide_eq_false_iff_not, reduceCtorEq, repo_length, ints_length, ec_ok, ec_par, ec_stamp, ei_ok, ei_i, isRepo_repo, isInts_ints, toRepo_repo, toInts_ints, repo_take, repo_drop, ints_take, ints_drop, ints_append, mk_headD, ei_len, ei_take, Nat.zero_add, Nat.le_refl, List.take_length, ints_snoc, ints_snoc', Int.lt_irrefl, asOfIn]
      exact ⟨by simp, trivial⟩) () trivial
  by_cases hz : asOfIn l u fs = 0
  · rw [if_pos hz] at hloop
    exact fd_ls (p := p22) hct (by kernel_rfl) hloop (by rw [k22_0x1, fd_leaf, hz]) rfl
  · rw [if_neg hz] at hloop
    exact fd_ls (p := p22) hct (by kernel_rfl) hloop (by rw [k22_0x0, fd_leaf]) rfl
end Go.Proofs.Ytkdinelcmanfcaa
