/-
  Chapter 12 (graph): each law answers true.
-/
import Derived.Test.YtkdinelcmanfcaaGL1
set_option linter.unusedSimpArgs false
set_option linter.unusedVariables false
namespace Go.Proofs.Ytkdinelcmanfcaa
open Go Go.Ev

theorem f7 (l : List Cm) (c : Cm) : call E 7 [.c (.sl 2 none false (repo l)), .agg [.c (.sl 1 none false (ints c.1)), V.i c.2]] [] = some ([V.b true], []) := by
  refine call_of (E := E) (sh := sh) (ct := ctOf ctL) (na := 2) (m := 0) ctL_ok rfl rfl rfl rfl rfl rfl ?_
  simp only [t7, ld_br, ld_chk', ld_leaf, fd_br, fd_chk', fd_leaf, decide_true, decide_eq_true_eq, if_true, Int.toNat_natCast, Int.natCast_nonneg, Int.ofNat_lt, Bool.false_eq_true, if_false, bne_iff_ne, beq_iff_eq, ne_eq, not_true_eq_false, not_false_eq_true, Bool.not_eq_true', decide_eq_false_iff_not, reduceCtorEq, repo_length, ints_length, ec_ok, ec_par, ec_stamp, ei_ok, ei_i, isRepo_repo, isInts_ints, toRepo_repo, toInts_ints, repo_take, repo_drop, ints_take, ints_drop, ints_append, mk_headD, ei_len, ei_take, Nat.zero_add, Nat.le_refl, List.take_length, ints_snoc, ints_snoc']
  cases hf : few l with
  | false => simp
  | true =>
    obtain ⟨hs, hl⟩ := few_small hf
    simp only [ld_br, ld_chk', ld_leaf, fd_br, fd_chk', fd_leaf, decide_true, decide_eq_true_eq, if_true, Int.toNat_natCast, Int.natCast_nonneg, Int.ofNat_lt, Bool.false_eq_true, if_false, bne_iff_ne, beq_iff_eq, ne_eq, not_true_eq_false, not_false_eq_true, Bool.not_eq_true', decide_eq_false_iff_not, reduceCtorEq, hs]
    by_cases hc : 10 < c.1.length
    · rw [if_pos (by omega)]
    · rw [if_neg (by omega)]
      have h1 : smallB (addG l c).1 = true := by
        unfold addG
        split
        · split
          · rfl
          · split
            · exact smallB_snoc hs (by omega)
            · rfl
        · rfl
      have h2 : (addG l c).1.length ≤ 61 := by
        unfold addG
        split
        · split
          · simp
          · split
            · simp; omega
            · simp
        · simp
      have e3 : ((c.1, c.2) : Cm) = c := rfl
      simp only [e3, ← add_same hl, h1, ld_br, ld_chk', ld_leaf, fd_br, fd_chk', fd_leaf, decide_true, decide_eq_true_eq, if_true, Int.toNat_natCast, Int.natCast_nonneg, Int.ofNat_lt, Bool.false_eq_true, if_false, bne_iff_ne, beq_iff_eq, ne_eq, not_true_eq_false, not_false_eq_true, Bool.not_eq_true', decide_eq_false_iff_not, reduceCtorEq, beq_self_eq_true]
      simp (disch := omega) only [if_pos]

theorem bases_len {l : List Cm} {a b : Int} : (basesG l a b).length ≤ 500 := by
  cases h : hasG l [a] with
  | false => simp [basesG, has_pair, h]
  | true =>
    cases h' : hasG l [b] with
    | false => simp [basesG, has_pair, h']
    | true =>
      obtain ⟨hr, h1, h2⟩ := has_one h
      have := right_len hr
      rw [basesG_eq h h', List.length_map]
      refine Nat.le_trans (List.length_filter_le _ _) ?_
      rw [List.length_range']
      omega
theorem reachL_len {l : List Cm} {n : Int} : (reachL l n).length ≤ 500 := by rw [reach_same]; exact reachR_len l n
theorem sinceG_len {l : List Cm} {a b : Int} : (sinceG l a b).length ≤ 500 := by
  cases h : hasG l [a] with
  | false => simp [sinceG, has_pair, h]
  | true =>
    cases h' : hasG l [b] with
    | false => simp [sinceG, has_pair, h']
    | true =>
      obtain ⟨hr, h1, h2⟩ := has_one h'
      have := right_len hr
      rw [sinceG_eq h h', List.length_map]
      refine Nat.le_trans (List.length_filter_le _ _) ?_
      rw [List.length_range']
      omega

theorem f5 (l : List Cm) (a b u : Int) : call E 5 [.c (.sl 2 none false (repo l)), V.i a, V.i b, V.i u] [] = some ([V.b true], []) := by
  refine call_of (E := E) (sh := sh) (ct := ctOf ctL) (na := 4) (m := 0) ctL_ok rfl rfl rfl rfl rfl rfl ?_
  simp only [t5, ld_br, ld_chk', ld_leaf, fd_br, fd_chk', fd_leaf, decide_true, decide_eq_true_eq, if_true, Int.toNat_natCast, Int.natCast_nonneg, Int.ofNat_lt, Bool.false_eq_true, if_false, bne_iff_ne, beq_iff_eq, ne_eq, not_true_eq_false, not_false_eq_true, Bool.not_eq_true', decide_eq_false_iff_not, reduceCtorEq, repo_length, ints_length, ec_ok, ec_par, ec_stamp, ei_ok, ei_i, isRepo_repo, isInts_ints, toRepo_repo, toInts_ints, repo_take, repo_drop, ints_take, ints_drop, ints_append, mk_headD, ei_len, ei_take, Nat.zero_add, Nat.le_refl, List.take_length, ints_snoc, ints_snoc']
  cases hf : few l with
  | false => simp
  | true =>
    obtain ⟨hs, hl⟩ := few_small hf
    have h1 := bases_len (l := l) (a := a) (b := b)
    have h2 := reachL_len (l := l) (n := a)
    have h3 := sinceG_len (l := l) (a := a) (b := b)
    have h4 := first_len (l := l) (n := a)
    simp only [ld_br, ld_chk', ld_leaf, fd_br, fd_chk', fd_leaf, decide_true, decide_eq_true_eq, if_true, Int.toNat_natCast, Int.natCast_nonneg, Int.ofNat_lt, Bool.false_eq_true, if_false, bne_iff_ne, beq_iff_eq, ne_eq, not_true_eq_false, not_false_eq_true, Bool.not_eq_true', decide_eq_false_iff_not, reduceCtorEq, hs, ← gen_same, ← reach_same, ← bases_same, ← first_same, ← asOf_same, ← since_same, beq_self_eq_true]
    have h5 : (beforeG l a b == (reachL l b).contains a) = true := by rw [reach_same, ← before_same]; exact beq_self_eq_true _
    have h6 : beforeG l a b = (reachL l b).contains a := by rw [reach_same, ← before_same]
    simp (disch := omega) only [if_pos, h6]
    rfl

theorem f3 (l : List Cm) (a b c : Int) : call E 3 [.c (.sl 2 none false (repo l)), V.i a, V.i b, V.i c] [] = some ([V.b true], []) := by
  refine call_of (E := E) (sh := sh) (ct := ctOf ctL) (na := 4) (m := 0) ctL_ok rfl rfl rfl rfl rfl rfl ?_
  simp only [t3, ld_br, ld_chk', ld_leaf, fd_br, fd_chk', fd_leaf, decide_true, decide_eq_true_eq, if_true, Int.toNat_natCast, Int.natCast_nonneg, Int.ofNat_lt, Bool.false_eq_true, if_false, bne_iff_ne, beq_iff_eq, ne_eq, not_true_eq_false, not_false_eq_true, Bool.not_eq_true', decide_eq_false_iff_not, reduceCtorEq, repo_length, ints_length, ec_ok, ec_par, ec_stamp, ei_ok, ei_i, isRepo_repo, isInts_ints, toRepo_repo, toInts_ints, repo_take, repo_drop, ints_take, ints_drop, ints_append, mk_headD, ei_len, ei_take, Nat.zero_add, Nat.le_refl, List.take_length, ints_snoc, ints_snoc']
  cases hf : few l with
  | false => simp
  | true =>
    obtain ⟨hs, hl⟩ := few_small hf
    simp only [ld_br, ld_chk', ld_leaf, fd_br, fd_chk', fd_leaf, decide_true, decide_eq_true_eq, if_true, Int.toNat_natCast, Int.natCast_nonneg, Int.ofNat_lt, Bool.false_eq_true, if_false, bne_iff_ne, beq_iff_eq, ne_eq, not_true_eq_false, not_false_eq_true, Bool.not_eq_true', decide_eq_false_iff_not, reduceCtorEq, hs]
    cases ha : hasG l [a] with
    | false => simp
    | true =>
      cases hb : hasG l [b] with
      | false => simp
      | true =>
        cases hc : hasG l [c] with
        | false => simp
        | true =>
          obtain ⟨hr, a1, a2⟩ := has_one ha
          obtain ⟨_, b1, b2⟩ := has_one hb
          have hwa := wrap_same (n := a - 1) (by omega) (by omega)
          have hwb := wrap_same (n := b - 1) (by omega) (by omega)
          have la : (a - 1).toNat < l.length := by omega
          have lb : (b - 1).toNat < l.length := by omega
          obtain ⟨ca, qa, sa⟩ := stamp_at ha
          obtain ⟨cb, qb, sb⟩ := stamp_at hb
          have haa := before_refl ha
          simp only [ld_br, ld_chk', ld_leaf, fd_br, fd_chk', fd_leaf, decide_true, decide_eq_true_eq, if_true, Int.toNat_natCast, Int.natCast_nonneg, Int.ofNat_lt, Bool.false_eq_true, if_false, bne_iff_ne, beq_iff_eq, ne_eq, not_true_eq_false, not_false_eq_true, Bool.not_eq_true', decide_eq_false_iff_not, reduceCtorEq, hwa, hwb, la, lb, repo_at qa, repo_at qb, repo_length, ints_length, ec_ok, ec_par, ec_stamp, ei_ok, ei_i, isRepo_repo, isInts_ints, toRepo_repo, toInts_ints, repo_take, repo_drop, ints_take, ints_drop, ints_append, mk_headD, ei_len, ei_take, Nat.zero_add, Nat.le_refl, List.take_length, ints_snoc, ints_snoc', sa, sb, haa]
          have p1 : 0 ≤ a - 1 := by omega
          have p2 : 0 ≤ b - 1 := by omega
          simp only [p1, p2, if_true]
          by_cases hne : a = b
          · subst hne
            simp only [haa, if_true, not_true_eq_false, if_false]
            cases h2 : beforeG l a c <;> simp
          · simp only [hne, not_false_eq_true, if_true]
            cases h1 : beforeG l a b with
            | false => simp
            | true =>
              obtain ⟨o1, o2, o3⟩ := before_order ha hb h1 hne
              have h4 := before_anti ha hb h1 hne
              simp only [if_true, h4]
              rw [if_neg (by omega), if_neg (by omega), if_neg (by omega)]
              cases h2 : beforeG l b c with
              | false => simp
              | true =>
                have := before_trans ha hb hc h1 h2
                simp [this]


/-! ## GraphBases -/
theorem bases_apart {l : List Cm} {a b : Int} (h : hasG l [a] = true) (h' : hasG l [b] = true) {i k : Nat} {x y : Int} (hx : (basesG l a b)[i]? = some x) (hy : (basesG l a b)[k]? = some y) (hne : i ≠ k) : beforeG l x y = false := by
  have hp := bases_nodup h h'
  have mx := (bases_mem h h').1 (List.mem_of_getElem? hx)
  have my := (bases_mem h h').1 (List.mem_of_getElem? hy)
  cases hb : beforeG l x y with
  | false => rfl
  | true =>
    have e := mx.2.2.2 y my.1 my.2.1 my.2.2.1 hb
    subst e
    rw [List.pairwise_iff_getElem] at hp
    obtain ⟨hi, ei⟩ := List.getElem?_eq_some_iff.1 hx
    obtain ⟨hk, ek⟩ := List.getElem?_eq_some_iff.1 hy
    rcases Nat.lt_or_ge i k with g | g
    · have := hp i k hi hk g; omega
    · have := hp k i hk hi (by omega); omega
theorem loop4_0 (l : List Cm) (a b c : Int) (hs : smallB l = true) (ha : hasG l [a] = true) (hb : hasG l [b] = true) (f : Bool) (i : Nat) (x : Int) (hx : (basesG l a b)[i]? = some x) :
    p4.Loops b4_0_0 (s4_0_0 (repo l) a b c none false none false (ints (basesG l a b)) f i 0) (x4_0_0x1 (repo l) a b c none false none false (ints (basesG l a b)) f i (basesG l a b).length) := by
  have hX := bases_len (l := l) (a := a) (b := b)
  have hi : i < (basesG l a b).length := (List.getElem?_eq_some_iff.1 hx).1
  exact loop_list (p := p4) ctL_ok (b := b4_0_0) (basesG l a b) (fun k (_ : Unit) => s4_0_0 (repo l) a b c none false none false (ints (basesG l a b)) f i k) (fun _ _ => True)
    (fun _ _ => x4_0_0x1 (repo l) a b c none false none false (ints (basesG l a b)) f i (basesG l a b).length)
    (by
      intro k _ y hy hk _
      have hw := wrap_same (n := (k : Int) + 1) (by omega) (by omega)
      refine .inl ⟨(), trivial, rfl, ?_⟩
      simp only [t4_0_0, ld_br, ld_chk', ld_leaf, fd_br, fd_chk', fd_leaf, decide_true, decide_eq_true_eq, if_true, Int.toNat_natCast, Int.natCast_nonneg, Int.ofNat_lt, Bool.false_eq_true, if_false, bne_iff_ne, beq_iff_eq, ne_eq, not_true_eq_false, not_false_eq_true, Bool.not_eq_true', decide_eq_false_iff_not, reduceCtorEq, repo_length, ints_length, ec_ok, ec_par, ec_stamp, ei_ok, ei_i, isRepo_repo, isInts_ints, toRepo_repo, toInts_ints, repo_take, repo_drop, ints_take, ints_drop, ints_append, mk_headD, ei_len, ei_take, Nat.zero_add, Nat.le_refl, List.take_length, ints_snoc, ints_snoc', hk, hi, ints_at hx, ints_at hy, hw, hs]
      by_cases e : i = k
      · rw [if_neg (by omega)]; rfl
      · rw [if_pos (by omega), bases_apart ha hb hx hy e]; rfl)
    (by
      intro _ _
      simp only [t4_0_0, ld_br, ld_chk', ld_leaf, fd_br, fd_chk', fd_leaf, decide_true, decide_eq_true_eq, if_true, Int.toNat_natCast, Int.natCast_nonneg, Int.ofNat_lt, Bool.false_eq_true, if_false, bne_iff_ne, beq_iff_eq, ne_eq, not_true_eq_false, not_false_eq_true, Bool.not_eq_true', decide_eq_false_iff_not, reduceCtorEq, repo_length, ints_length, ec_ok, ec_par, ec_stamp, ei_ok, ei_i, isRepo_repo, isInts_ints, toRepo_repo, toInts_ints, repo_take, repo_drop, ints_take, ints_drop, ints_append, mk_headD, ei_len, ei_take, Nat.zero_add, Nat.le_refl, List.take_length, ints_snoc, ints_snoc', Int.lt_irrefl]
      exact ⟨by simp, trivial⟩) () trivial
theorem loop4 (l : List Cm) (a b c : Int) (hs : smallB l = true) (ha : hasG l [a] = true) (hb : hasG l [b] = true) :
    p4.Loops b4_0 (s4_0 (repo l) a b c none false none false (ints (basesG l a b)) false 0) (x4_0x1 (repo l) a b c none false none false (ints (basesG l a b)) ((basesG l a b).any fun x => beforeG l c x) (basesG l a b).length) := by
  have hX := bases_len (l := l) (a := a) (b := b)
  have key := loop_list (p := p4) ctL_ok (b := b4_0) (basesG l a b) (fun k (f : Bool) => s4_0 (repo l) a b c none false none false (ints (basesG l a b)) f k) (fun _ _ => True)
    (fun r f => x4_0x1 (repo l) a b c none false none false (ints (basesG l a b)) (f || r.any fun x => beforeG l c x) (basesG l a b).length)
    (by
      intro k f x hx hk _
      have hw := wrap_same (n := (k : Int) + 1) (by omega) (by omega)
      have mx := (bases_mem ha hb).1 (List.mem_of_getElem? hx)
      refine .inl ⟨f || beforeG l c x, trivial, by simp only [List.any_cons, Bool.or_assoc], ?_⟩
      simp only [t4_0, ld_br, ld_chk', ld_leaf, fd_br, fd_chk', fd_leaf, decide_true, decide_eq_true_eq, if_true, Int.toNat_natCast, Int.natCast_nonneg, Int.ofNat_lt, Bool.false_eq_true, if_false, bne_iff_ne, beq_iff_eq, ne_eq, not_true_eq_false, not_false_eq_true, Bool.not_eq_true', decide_eq_false_iff_not, reduceCtorEq, repo_length, ints_length, ec_ok, ec_par, ec_stamp, ei_ok, ei_i, isRepo_repo, isInts_ints, toRepo_repo, toInts_ints, repo_take, repo_drop, ints_take, ints_drop, ints_append, mk_headD, ei_len, ei_take, Nat.zero_add, Nat.le_refl, List.take_length, ints_snoc, ints_snoc', hk, ints_at hx, hs, mx.2.1, mx.2.2.1]
      refine ld_ls (p := p4) ctL_ok (by kernel_rfl) (loop4_0 l a b c hs ha hb f k x hx) ?_ rfl
      simp only [k4_0_0x1, ld_br, ld_chk', ld_leaf, fd_br, fd_chk', fd_leaf, decide_true, decide_eq_true_eq, if_true, Int.toNat_natCast, Int.natCast_nonneg, Int.ofNat_lt, Bool.false_eq_true, if_false, bne_iff_ne, beq_iff_eq, ne_eq, not_true_eq_false, not_false_eq_true, Bool.not_eq_true', decide_eq_false_iff_not, reduceCtorEq, repo_length, ints_length, ec_ok, ec_par, ec_stamp, ei_ok, ei_i, isRepo_repo, isInts_ints, toRepo_repo, toInts_ints, repo_take, repo_drop, ints_take, ints_drop, ints_append, mk_headD, ei_len, ei_take, Nat.zero_add, Nat.le_refl, List.take_length, ints_snoc, ints_snoc', hk, ints_at hx, hs, hw]
      cases f <;> rfl)
    (by
      intro f _
      simp only [t4_0, ld_br, ld_chk', ld_leaf, fd_br, fd_chk', fd_leaf, decide_true, decide_eq_true_eq, if_true, Int.toNat_natCast, Int.natCast_nonneg, Int.ofNat_lt, Bool.false_eq_true, if_false, bne_iff_ne, beq_iff_eq, ne_eq, not_true_eq_false, not_false_eq_true, Bool.not_eq_true', decide_eq_false_iff_not, reduceCtorEq, repo_length, ints_length, ec_ok, ec_par, ec_stamp, ei_ok, ei_i, isRepo_repo, isInts_ints, toRepo_repo, toInts_ints, repo_take, repo_drop, ints_take, ints_drop, ints_append, mk_headD, ei_len, ei_take, Nat.zero_add, Nat.le_refl, List.take_length, ints_snoc, ints_snoc', Int.lt_irrefl, List.any_nil, Bool.or_false]
      exact ⟨by simp, trivial⟩) false trivial
  simpa using key
theorem f4 (l : List Cm) (a b c : Int) : call E 4 [.c (.sl 2 none false (repo l)), V.i a, V.i b, V.i c] [] = some ([V.b true], []) := by
  refine call_of (E := E) (sh := sh) (ct := ctOf ctL) (na := 4) (m := 0) ctL_ok rfl rfl rfl rfl rfl rfl ?_
  simp only [t4, ld_br, ld_chk', ld_leaf, fd_br, fd_chk', fd_leaf, decide_true, decide_eq_true_eq, if_true, Int.toNat_natCast, Int.natCast_nonneg, Int.ofNat_lt, Bool.false_eq_true, if_false, bne_iff_ne, beq_iff_eq, ne_eq, not_true_eq_false, not_false_eq_true, Bool.not_eq_true', decide_eq_false_iff_not, reduceCtorEq, repo_length, ints_length, ec_ok, ec_par, ec_stamp, ei_ok, ei_i, isRepo_repo, isInts_ints, toRepo_repo, toInts_ints, repo_take, repo_drop, ints_take, ints_drop, ints_append, mk_headD, ei_len, ei_take, Nat.zero_add, Nat.le_refl, List.take_length, ints_snoc, ints_snoc']
  cases hf : few l with
  | false => simp
  | true =>
    obtain ⟨hs, hl⟩ := few_small hf
    simp only [ld_br, ld_chk', ld_leaf, fd_br, fd_chk', fd_leaf, decide_true, decide_eq_true_eq, if_true, Int.toNat_natCast, Int.natCast_nonneg, Int.ofNat_lt, Bool.false_eq_true, if_false, bne_iff_ne, beq_iff_eq, ne_eq, not_true_eq_false, not_false_eq_true, Bool.not_eq_true', decide_eq_false_iff_not, reduceCtorEq, hs]
    cases ha : hasG l [a] with
    | false => simp
    | true =>
      cases hb : hasG l [b] with
      | false => simp
      | true =>
        cases hc : hasG l [c] with
        | false => simp
        | true =>
          have hX := bases_len (l := l) (a := a) (b := b)
          have hend : p4.fd (Tr.ls 0 (s4_0 (repo l) a b c none false none false (ints (basesG l a b)) false 0)) = some (R.out [V.b true] []) := by
            refine fd_ls (p := p4) ctL_ok (by kernel_rfl) (loop4 l a b c hs ha hb) ?_ rfl
            have hany : ((basesG l a b).any fun x => beforeG l c x) = (beforeG l c a && beforeG l c b) := by
              rw [Bool.eq_iff_iff, List.any_eq_true, Bool.and_eq_true]
              constructor
              · rintro ⟨x, hx, hcx⟩
                have mx := (bases_mem ha hb).1 hx
                exact ⟨before_trans hc mx.1 ha hcx mx.2.1, before_trans hc mx.1 hb hcx mx.2.2.1⟩
              · rintro ⟨g1, g2⟩
                exact bases_above ha hb _ c (Nat.le_refl _) hc g1 g2
            simp only [k4_0x1, ld_br, ld_chk', ld_leaf, fd_br, fd_chk', fd_leaf, decide_true, decide_eq_true_eq, if_true, Int.toNat_natCast, Int.natCast_nonneg, Int.ofNat_lt, Bool.false_eq_true, if_false, bne_iff_ne, beq_iff_eq, ne_eq, not_true_eq_false, not_false_eq_true, Bool.not_eq_true', decide_eq_false_iff_not, reduceCtorEq, repo_length, ints_length, ec_ok, ec_par, ec_stamp, ei_ok, ei_i, isRepo_repo, isInts_ints, toRepo_repo, toInts_ints, repo_take, repo_drop, ints_take, ints_drop, ints_append, mk_headD, ei_len, ei_take, Nat.zero_add, Nat.le_refl, List.take_length, ints_snoc, ints_snoc', hs, hany]
            cases beforeG l c a <;> cases beforeG l c b <;> simp
          simp only [ld_br, ld_chk', ld_leaf, fd_br, fd_chk', fd_leaf, decide_true, decide_eq_true_eq, if_true, Int.toNat_natCast, Int.natCast_nonneg, Int.ofNat_lt, Bool.false_eq_true, if_false, bne_iff_ne, beq_iff_eq, ne_eq, not_true_eq_false, not_false_eq_true, Bool.not_eq_true', decide_eq_false_iff_not, reduceCtorEq, toInts_1, bases_comm l b a, beq_self_eq_true]
          simp (disch := omega) only [if_pos]
          cases h1 : beforeG l a b with
          | false => simpa using hend
          | true =>
            rw [bases_single ha hb h1] at hend ⊢
            simpa using hend

/-! ## GraphFirst -/
theorem loop6_0 (l : List Cm) (a n t u : Int) (hs : smallB l = true) (hn : hasG l [n] = true) :
    p6.Loops b6_0 (s6_0 (repo l) a n t u none false none false (ints (firstG l n)) 1) (x6_0x1 (repo l) a n t u none false none false (ints (firstG l n)) (firstG l n).length) := by
  obtain ⟨r, hr⟩ := first_head hn
  have hX := first_len (l := l) (n := n)
  have key := loop_list (p := p6) ctL_ok (b := b6_0) r (fun k (_ : Unit) => s6_0 (repo l) a n t u none false none false (ints (firstG l n)) ((k : Int) + 1)) (fun _ _ => True)
    (fun _ _ => x6_0x1 (repo l) a n t u none false none false (ints (firstG l n)) (firstG l n).length)
    (by
      intro k _ y hy hk _
      have hlen : (firstG l n).length = r.length + 1 := by rw [hr]; rfl
      have hw := wrap_same (n := (k : Int) + 1 + 1) (by omega) (by omega)
      have hw2 := wrap_same (n := (k : Int) + 1 - 1) (by omega) (by omega)
      have e1 : ((k : Int) + 1 - 1) = (k : Int) := by omega
      have e2 : ((k : Int) + 1).toNat = k + 1 := by omega
      rw [e1] at hw2
      have hy' : (firstG l n)[k + 1]? = some y := by rw [hr, List.getElem?_cons_succ]; exact hy
      obtain ⟨x, hx⟩ : ∃ x, (firstG l n)[k]? = some x := ⟨_, List.getElem?_eq_getElem (by omega)⟩
      obtain ⟨g1, g2, g3, g4, g5⟩ := first_step hn hx hy'
      obtain ⟨q0, q1, q2⟩ := has_one g1
      obtain ⟨_, q3, q4⟩ := has_one g2
      have hl := right_len q0
      obtain ⟨cx, kx, sx⟩ := stamp_at g1
      obtain ⟨cy, ky, sy⟩ := stamp_at g2
      have hwx := wrap_same (n := x - 1) (by omega) (by omega)
      have hwy := wrap_same (n := y - 1) (by omega) (by omega)
      have lx : (x - 1).toNat < l.length := by omega
      have ly : (y - 1).toNat < l.length := by omega
      refine .inl ⟨(), trivial, rfl, ?_⟩
      simp only [t6_0, ld_br, ld_chk', ld_leaf, fd_br, fd_chk', fd_leaf, decide_true, decide_eq_true_eq, if_true, Int.toNat_natCast, Int.natCast_nonneg, Int.ofNat_lt, Bool.false_eq_true, if_false, bne_iff_ne, beq_iff_eq, ne_eq, not_true_eq_false, not_false_eq_true, Bool.not_eq_true', decide_eq_false_iff_not, reduceCtorEq, repo_length, ints_length, ec_ok, ec_par, ec_stamp, ei_ok, ei_i, isRepo_repo, isInts_ints, toRepo_repo, toInts_ints, repo_take, repo_drop, ints_take, ints_drop, ints_append, mk_headD, ei_len, ei_take, Nat.zero_add, Nat.le_refl, List.take_length, ints_snoc, ints_snoc', e1, e2, hw, hw2, ints_at hx, ints_at hy', hs, g1, g2, hwx, hwy, lx, ly, repo_at kx, repo_at ky, sx, sy, g5, hlen, Nat.succ_lt_succ_iff, hk, show k < r.length + 1 by omega]
      simp (disch := omega) only [if_pos, if_neg]
      rfl)
    (by
      intro _ _
      have hlen : (firstG l n).length = r.length + 1 := by rw [hr]; rfl
      simp only [t6_0, ld_br, ld_chk', ld_leaf, fd_br, fd_chk', fd_leaf, decide_true, decide_eq_true_eq, if_true, Int.toNat_natCast, Int.natCast_nonneg, Int.ofNat_lt, Bool.false_eq_true, if_false, bne_iff_ne, beq_iff_eq, ne_eq, not_true_eq_false, not_false_eq_true, Bool.not_eq_true', decide_eq_false_iff_not, reduceCtorEq, repo_length, ints_length, ec_ok, ec_par, ec_stamp, ei_ok, ei_i, isRepo_repo, isInts_ints, toRepo_repo, toInts_ints, repo_take, repo_drop, ints_take, ints_drop, ints_append, mk_headD, ei_len, ei_take, Nat.zero_add, Nat.le_refl, List.take_length, ints_snoc, ints_snoc', hlen]
      simp (disch := omega) only [if_neg]
      exact ⟨by simp, by simp⟩) () trivial
  simpa using key
theorem loop6_1 (l : List Cm) (a n : Int) (hs : smallB l = true) (ha : hasG l [a] = true) (hn : hasG l [n] = true) (F : List (List C)) :
    p6.Loops b6_1 (s6_1 (repo l) a n none false none false F none false (ints (sinceG l a n)) 0) (x6_1x1 (repo l) a n none false none false F none false (ints (sinceG l a n)) (sinceG l a n).length) := by
  have hX := sinceG_len (l := l) (a := a) (b := n)
  exact loop_list (p := p6) ctL_ok (b := b6_1) (sinceG l a n) (fun k (_ : Unit) => s6_1 (repo l) a n none false none false F none false (ints (sinceG l a n)) k) (fun _ _ => True)
    (fun _ _ => x6_1x1 (repo l) a n none false none false F none false (ints (sinceG l a n)) (sinceG l a n).length)
    (by
      intro k _ y hy hk _
      have hw := wrap_same (n := (k : Int) + 1) (by omega) (by omega)
      have m := since_mem ha hn (List.mem_of_getElem? hy)
      refine .inl ⟨(), trivial, rfl, ?_⟩
      simp only [t6_1, ld_br, ld_chk', ld_leaf, fd_br, fd_chk', fd_leaf, decide_true, decide_eq_true_eq, if_true, Int.toNat_natCast, Int.natCast_nonneg, Int.ofNat_lt, Bool.false_eq_true, if_false, bne_iff_ne, beq_iff_eq, ne_eq, not_true_eq_false, not_false_eq_true, Bool.not_eq_true', decide_eq_false_iff_not, reduceCtorEq, repo_length, ints_length, ec_ok, ec_par, ec_stamp, ei_ok, ei_i, isRepo_repo, isInts_ints, toRepo_repo, toInts_ints, repo_take, repo_drop, ints_take, ints_drop, ints_append, mk_headD, ei_len, ei_take, Nat.zero_add, Nat.le_refl, List.take_length, ints_snoc, ints_snoc', hk, ints_at hy, hw, hs, m.1, m.2]
      rfl)
    (by
      intro _ _
      simp only [t6_1, ld_br, ld_chk', ld_leaf, fd_br, fd_chk', fd_leaf, decide_true, decide_eq_true_eq, if_true, Int.toNat_natCast, Int.natCast_nonneg, Int.ofNat_lt, Bool.false_eq_true, if_false, bne_iff_ne, beq_iff_eq, ne_eq, not_true_eq_false, not_false_eq_true, Bool.not_eq_true', decide_eq_false_iff_not, reduceCtorEq, repo_length, ints_length, ec_ok, ec_par, ec_stamp, ei_ok, ei_i, isRepo_repo, isInts_ints, toRepo_repo, toInts_ints, repo_take, repo_drop, ints_take, ints_drop, ints_append, mk_headD, ei_len, ei_take, Nat.zero_add, Nat.le_refl, List.take_length, ints_snoc, ints_snoc', Int.lt_irrefl]
      exact ⟨by simp, trivial⟩) () trivial
theorem f6 (l : List Cm) (a n t u : Int) : call E 6 [.c (.sl 2 none false (repo l)), V.i a, V.i n, V.i t, V.i u] [] = some ([V.b true], []) := by
  refine call_of (E := E) (sh := sh) (ct := ctOf ctL) (na := 5) (m := 0) ctL_ok rfl rfl rfl rfl rfl rfl ?_
  simp only [t6, ld_br, ld_chk', ld_leaf, fd_br, fd_chk', fd_leaf, decide_true, decide_eq_true_eq, if_true, Int.toNat_natCast, Int.natCast_nonneg, Int.ofNat_lt, Bool.false_eq_true, if_false, bne_iff_ne, beq_iff_eq, ne_eq, not_true_eq_false, not_false_eq_true, Bool.not_eq_true', decide_eq_false_iff_not, reduceCtorEq, repo_length, ints_length, ec_ok, ec_par, ec_stamp, ei_ok, ei_i, isRepo_repo, isInts_ints, toRepo_repo, toInts_ints, repo_take, repo_drop, ints_take, ints_drop, ints_append, mk_headD, ei_len, ei_take, Nat.zero_add, Nat.le_refl, List.take_length, ints_snoc, ints_snoc']
  cases hf : few l with
  | false => simp
  | true =>
    obtain ⟨hs, hl⟩ := few_small hf
    simp only [ld_br, ld_chk', ld_leaf, fd_br, fd_chk', fd_leaf, decide_true, decide_eq_true_eq, if_true, Int.toNat_natCast, Int.natCast_nonneg, Int.ofNat_lt, Bool.false_eq_true, if_false, bne_iff_ne, beq_iff_eq, ne_eq, not_true_eq_false, not_false_eq_true, Bool.not_eq_true', decide_eq_false_iff_not, reduceCtorEq, hs]
    cases ha : hasG l [a] with
    | false => simp
    | true =>
      cases hn : hasG l [n] with
      | false => simp
      | true =>
        simp only [ld_br, ld_chk', ld_leaf, fd_br, fd_chk', fd_leaf, decide_true, decide_eq_true_eq, if_true, Int.toNat_natCast, Int.natCast_nonneg, Int.ofNat_lt, Bool.false_eq_true, if_false, bne_iff_ne, beq_iff_eq, ne_eq, not_true_eq_false, not_false_eq_true, Bool.not_eq_true', decide_eq_false_iff_not, reduceCtorEq]
        refine fd_ls (p := p6) ctL_ok (by kernel_rfl) (loop6_0 l a n t u hs hn) ?_ rfl
        obtain ⟨hr, n1, n2⟩ := has_one hn
        have hwn := wrap_same (n := n - 1) (by omega) (by omega)
        have ln : (n - 1).toNat < l.length := by omega
        obtain ⟨cn, kn, sn⟩ := stamp_at hn
        have hself := asOf_self hn
        have hend : p6.fd (Tr.ls 1 (s6_1 (repo l) a n none false none false (ints (firstG l n)) none false (ints (sinceG l a n)) 0)) = some (R.out [V.b true] []) := by
          refine fd_ls (p := p6) ctL_ok (by kernel_rfl) (loop6_1 l a n hs ha hn _) ?_ rfl
          obtain ⟨r, hr⟩ := first_head hn
          have e1 : (ints (firstG l n)).getD (Int.toNat 0) [] = ei n := by rw [hr]; rfl
          have e2 : Int.toNat 0 < (firstG l n).length := by rw [hr]; simp
          have e3 : (0 : Int) < ((firstG l n).length : Int) := by rw [hr]; simp
          simp only [k6_1x1, ld_br, ld_chk', ld_leaf, fd_br, fd_chk', fd_leaf, decide_true, decide_eq_true_eq, if_true, Int.toNat_natCast, Int.natCast_nonneg, Int.ofNat_lt, Bool.false_eq_true, if_false, bne_iff_ne, beq_iff_eq, ne_eq, not_true_eq_false, not_false_eq_true, Bool.not_eq_true', decide_eq_false_iff_not, reduceCtorEq, repo_length, ints_length, ec_ok, ec_par, ec_stamp, ei_ok, ei_i, isRepo_repo, isInts_ints, toRepo_repo, toInts_ints, repo_take, repo_drop, ints_take, ints_drop, ints_append, mk_headD, ei_len, ei_take, Nat.zero_add, Nat.le_refl, List.take_length, ints_snoc, ints_snoc', e1, e2, e3]
        have h2 := reachL_len (l := l) (n := a)
        have h3 := sinceG_len (l := l) (a := a) (b := n)
        have hw := wrap_same (n := ((sinceG l a n).length : Int) + ((reachL l a).length : Int)) (by omega) (by omega)
        simp only [k6_0x1, ld_br, ld_chk', ld_leaf, fd_br, fd_chk', fd_leaf, decide_true, decide_eq_true_eq, if_true, Int.toNat_natCast, Int.natCast_nonneg, Int.ofNat_lt, Bool.false_eq_true, if_false, bne_iff_ne, beq_iff_eq, ne_eq, not_true_eq_false, not_false_eq_true, Bool.not_eq_true', decide_eq_false_iff_not, reduceCtorEq, repo_length, ints_length, ec_ok, ec_par, ec_stamp, ei_ok, ei_i, isRepo_repo, isInts_ints, toRepo_repo, toInts_ints, repo_take, repo_drop, ints_take, ints_drop, ints_append, mk_headD, ei_len, ei_take, Nat.zero_add, Nat.le_refl, List.take_length, ints_snoc, ints_snoc', hs, hwn, ln, repo_at kn, sn, hself, hw]
        have hm : t ≤ u → ¬ asOfG l n u < asOfG l n t := fun h => by have := asOf_mono (l := l) hn h; omega
        have hc : beforeG l a n = true → ((sinceG l a n).length : Int) + ((reachL l a).length : Int) = ((reachL l n).length : Int) := fun h => by have := since_count ha hn h; omega
        have p1 : (0 : Int) ≤ n - 1 := by omega
        by_cases h5 : t ≤ u
        · rw [if_pos h5, if_neg (hm h5), if_pos p1]
          cases h6 : beforeG l a n with
          | false => simpa using hend
          | true => rw [if_pos rfl, if_neg (by rw [hc h6]; simp)]; exact hend
        · rw [if_neg h5, if_pos p1]
          cases h6 : beforeG l a n with
          | false => simpa using hend
          | true => rw [if_pos rfl, if_neg (by rw [hc h6]; simp)]; exact hend
end Go.Proofs.Ytkdinelcmanfcaa
