/-
  Chapter 12 (graph): the reference's Bases, First, AsOf, Since, Add; Clone, Add.
-/
import Derived.Test.YtkdinelcmanfcaaGT8
set_option linter.unusedSimpArgs false
set_option linter.unusedVariables false
namespace Go.Proofs.Ytkdinelcmanfcaa
open Go Go.Ev

theorem ct19 : CT.ok E (ctOf [(35, s35), (39, s39), (40, s40)]) := ctOf_cons s35_ok (ctOf_cons s39_ok (ctOf_cons s40_ok ctOf_nil))
theorem filter_snoc_len {α : Type} (p : α → Bool) (x : α) (r : List α) : (x :: r).filter p = (if p x = true then [x] else []) ++ r.filter p := by
  rw [List.filter_cons]; split <;> simp

/-! ## Since -/
theorem f25 (l : List Cm) (nl : Option Bool) (t : Bool) (a n : Int) (hs : smallB l = true) : call E 25 [.c (.sl 2 nl t (repo l)), V.i a, V.i n] [] = some ([.c (.sl 1 none false (ints (sinceR l a n)))], []) := by
  refine call_of (E := E) (sh := sh) (ct := ctOf [(35, s35), (39, s39), (40, s40)]) (na := 3) (m := 0) ct19 rfl rfl rfl rfl rfl rfl ?_
  simp only [t25, ld_br, ld_chk', ld_leaf, fd_br, fd_chk', fd_leaf, decide_true, decide_eq_true_eq, if_true, Int.toNat_natCast, Int.natCast_nonneg, Int.ofNat_lt, Bool.false_eq_true, if_false, bne_iff_ne, beq_iff_eq, ne_eq, not_true_eq_false, not_false_eq_true, Bool.not_eq_true', decide_eq_false_iff_not, reduceCtorEq, repo_length, ints_length, ec_ok, ec_par, ec_stamp, ei_ok, ei_i, isRepo_repo, isInts_ints, toRepo_repo, toInts_ints, repo_take, repo_drop, ints_take, ints_drop, ints_append, mk_headD, ei_len, ei_take, Nat.zero_add, Nat.le_refl, List.take_length, ints_snoc, ints_snoc', hs, sinceR]
  cases h : hasG l [a] with
  | false => rfl
  | true =>
    cases h' : hasG l [n] with
    | false => rfl
    | true =>
      obtain ⟨h1, h2⟩ := has_right h
      obtain ⟨_, h3⟩ := has_right h'
      have hx := reachesR_len h1 (h2 a (by simp))
      have hy := reachesR_len h1 (h3 n (by simp))
      simp only [h1, h2 a (by simp), h3 n (by simp), ld_br, ld_chk', ld_leaf, fd_br, fd_chk', fd_leaf, decide_true, decide_eq_true_eq, if_true, Int.toNat_natCast, Int.natCast_nonneg, Int.ofNat_lt, Bool.false_eq_true, if_false, bne_iff_ne, beq_iff_eq, ne_eq, not_true_eq_false, not_false_eq_true, Bool.not_eq_true', decide_eq_false_iff_not, reduceCtorEq, Bool.and_self]
      generalize reachesR l a = X at hx ⊢
      generalize reachesR l n = Y at hy ⊢
      have hloop := loop_list (p := p25) ct19 (b := b25_0) Y (fun k (out : List Int) => s25_0 none false (ints X) none false (ints Y) out.length k (ints out)) (fun k out => out.length ≤ k)
        (fun r out => x25_0x0 none false (ints X) none false (ints Y) (out ++ r.filter fun x => !X.contains x).length Y.length (ints (out ++ r.filter fun x => !X.contains x)))
        (by
          intro k out y hy hk ho
          have hw := wrap_same (n := (k : Int) + 1) (by omega) (by omega)
          simp only [t25_0, ld_br, ld_chk', ld_leaf, fd_br, fd_chk', fd_leaf, decide_true, decide_eq_true_eq, if_true, Int.toNat_natCast, Int.natCast_nonneg, Int.ofNat_lt, Bool.false_eq_true, if_false, bne_iff_ne, beq_iff_eq, ne_eq, not_true_eq_false, not_false_eq_true, Bool.not_eq_true', decide_eq_false_iff_not, reduceCtorEq, repo_length, ints_length, ec_ok, ec_par, ec_stamp, ei_ok, ei_i, isRepo_repo, isInts_ints, toRepo_repo, toInts_ints, repo_take, repo_drop, ints_take, ints_drop, ints_append, mk_headD, ei_len, ei_take, Nat.zero_add, Nat.le_refl, List.take_length, ints_snoc, ints_snoc', hk, ints_at hy, hw, filter_snoc_len]
          simp (disch := omega) only [if_pos]
          cases hc : X.contains y
          · simp only [if_true, ld_br, ld_chk', ld_leaf, fd_br, fd_chk', fd_leaf, decide_true, decide_eq_true_eq, if_true, Int.toNat_natCast, Int.natCast_nonneg, Int.ofNat_lt, Bool.false_eq_true, if_false, bne_iff_ne, beq_iff_eq, ne_eq, not_true_eq_false, not_false_eq_true, Bool.not_eq_true', decide_eq_false_iff_not, reduceCtorEq]
            exact .inl ⟨out ++ [y], by simp; omega, by simp, by simp⟩
          · simp only [ld_br, ld_chk', ld_leaf, fd_br, fd_chk', fd_leaf, decide_true, decide_eq_true_eq, if_true, Int.toNat_natCast, Int.natCast_nonneg, Int.ofNat_lt, Bool.false_eq_true, if_false, bne_iff_ne, beq_iff_eq, ne_eq, not_true_eq_false, not_false_eq_true, Bool.not_eq_true', decide_eq_false_iff_not, reduceCtorEq]
            exact .inl ⟨out, by omega, by simp, rfl⟩)
        (by
          intro out _
          simp only [t25_0, ld_br, ld_chk', ld_leaf, fd_br, fd_chk', fd_leaf, decide_true, decide_eq_true_eq, if_true, Int.toNat_natCast, Int.natCast_nonneg, Int.ofNat_lt, Bool.false_eq_true, if_false, bne_iff_ne, beq_iff_eq, ne_eq, not_true_eq_false, not_false_eq_true, Bool.not_eq_true', decide_eq_false_iff_not, reduceCtorEq, repo_length, ints_length, ec_ok, ec_par, ec_stamp, ei_ok, ei_i, isRepo_repo, isInts_ints, toRepo_repo, toInts_ints, repo_take, repo_drop, ints_take, ints_drop, ints_append, mk_headD, ei_len, ei_take, Nat.zero_add, Nat.le_refl, List.take_length, ints_snoc, ints_snoc', Int.lt_irrefl, List.filter_nil, List.append_nil]
          exact ⟨by simp, trivial⟩) [] (by simp)
      refine fd_ls (p := p25) ct19 (by kernel_rfl) hloop ?_ rfl
      rw [k25_0x0, fd_leaf, List.take_of_length_le (by simp)]
      simp

/-! ## Bases -/
theorem loop19_1_0 (l : List Cm) (nl : Option Bool) (t : Bool) (hr : right l = true) (B : List Int) (hB : ∀ x ∈ B, noNum l.length x = false) (hlen : B.length ≤ 500) (i : Nat) (b : Int) (hb : B[i]? = some b) (m : Nat) (ys : List (List C)) :
    p19.Loops b19_1_0 (s19_1_0 nl t (repo l) B.length m (ints B) ys i true ((i : Int) + 1)) (x19_1_0x0 nl t (repo l) B.length m (ints B) ys i (lastOf l b (B.drop (i + 1))) B.length) := by
  have hi : i < B.length := (List.getElem?_eq_some_iff.1 hb).1
  have key := loop_list (p := p19) ct19 (b := b19_1_0) (B.drop (i + 1)) (fun k (last : Bool) => s19_1_0 nl t (repo l) B.length m (ints B) ys i last ((i : Int) + 1 + k)) (fun _ _ => True)
    (fun r last => x19_1_0x0 nl t (repo l) B.length m (ints B) ys i (last && lastOf l b r) B.length)
    (by
      intro k last x hx hk _
      rw [List.length_drop] at hk
      rw [List.getElem?_drop] at hx
      have hw := wrap_same (n := (i : Int) + 1 + k + 1) (by omega) (by omega)
      have e : ((i : Int) + 1 + k).toNat = i + 1 + k := by omega
      have h3 : i + 1 + k < B.length := by omega
      have hxn := hB x (List.mem_of_getElem? hx)
      have hlr := reachesR_len hr hxn
      simp only [t19_1_0, ld_br, ld_chk', ld_leaf, fd_br, fd_chk', fd_leaf, decide_true, decide_eq_true_eq, if_true, Int.toNat_natCast, Int.natCast_nonneg, Int.ofNat_lt, Bool.false_eq_true, if_false, bne_iff_ne, beq_iff_eq, ne_eq, not_true_eq_false, not_false_eq_true, Bool.not_eq_true', decide_eq_false_iff_not, reduceCtorEq, repo_length, ints_length, ec_ok, ec_par, ec_stamp, ei_ok, ei_i, isRepo_repo, isInts_ints, toRepo_repo, toInts_ints, repo_take, repo_drop, ints_take, ints_drop, ints_append, mk_headD, ei_len, ei_take, Nat.zero_add, Nat.le_refl, List.take_length, ints_snoc, ints_snoc', e, ints_at hx, ints_at hb, hr, hxn, h3, hi, hw]
      simp (disch := omega) only [if_pos]
      cases last with
      | true =>
        refine .inl ⟨!(reachesR l x).contains b, trivial, ?_, ?_⟩
        · simp only [Bool.true_and, lastOf]
        · simp only [if_true]
          rw [show (i : Int) + 1 + ((k + 1 : Nat) : Int) = (i : Int) + 1 + k + 1 by omega]
      | false =>
        refine .inl ⟨false, trivial, ?_, ?_⟩
        · simp only [Bool.false_and]
        · simp only [ld_br, ld_chk', ld_leaf, fd_br, fd_chk', fd_leaf, decide_true, decide_eq_true_eq, if_true, Int.toNat_natCast, Int.natCast_nonneg, Int.ofNat_lt, Bool.false_eq_true, if_false, bne_iff_ne, beq_iff_eq, ne_eq, not_true_eq_false, not_false_eq_true, Bool.not_eq_true', decide_eq_false_iff_not, reduceCtorEq]
          rw [show (i : Int) + 1 + ((k + 1 : Nat) : Int) = (i : Int) + 1 + k + 1 by omega])
    (by
      intro last _
      rw [List.length_drop]
      have e : (i : Int) + 1 + ((B.length - (i + 1) : Nat) : Int) = B.length := by omega
      simp only [t19_1_0, ld_br, ld_chk', ld_leaf, fd_br, fd_chk', fd_leaf, decide_true, decide_eq_true_eq, if_true, Int.toNat_natCast, Int.natCast_nonneg, Int.ofNat_lt, Bool.false_eq_true, if_false, bne_iff_ne, beq_iff_eq, ne_eq, not_true_eq_false, not_false_eq_true, Bool.not_eq_true', decide_eq_false_iff_not, reduceCtorEq, e, Int.lt_irrefl, lastOf, Bool.and_true]
      exact ⟨by simp, trivial⟩) true trivial
  simp only [Bool.true_and] at key
  rw [show (i : Int) + 1 + ((0 : Nat) : Int) = (i : Int) + 1 by omega] at key
  exact key
theorem basesIn_len (l : List Cm) : ∀ r, (basesIn l r).length ≤ r.length
  | [] => by simp [basesIn]
  | x :: r => by
    have := basesIn_len l r
    simp only [basesIn]
    split <;> simp only [List.length_cons] <;> omega
theorem f19 (l : List Cm) (nl : Option Bool) (t : Bool) (a b : Int) (hs : smallB l = true) (hmem : ∀ n, hasG l [n] = true → ∀ x ∈ reachesR l n, noNum l.length x = false) : call E 19 [.c (.sl 2 nl t (repo l)), V.i a, V.i b] [] = some ([.c (.sl 1 none false (ints (basesR l a b)))], []) := by
  refine call_of (E := E) (sh := sh) (ct := ctOf [(35, s35), (39, s39), (40, s40)]) (na := 3) (m := 0) ct19 rfl rfl rfl rfl rfl rfl ?_
  simp only [t19, ld_br, ld_chk', ld_leaf, fd_br, fd_chk', fd_leaf, decide_true, decide_eq_true_eq, if_true, Int.toNat_natCast, Int.natCast_nonneg, Int.ofNat_lt, Bool.false_eq_true, if_false, bne_iff_ne, beq_iff_eq, ne_eq, not_true_eq_false, not_false_eq_true, Bool.not_eq_true', decide_eq_false_iff_not, reduceCtorEq, repo_length, ints_length, ec_ok, ec_par, ec_stamp, ei_ok, ei_i, isRepo_repo, isInts_ints, toRepo_repo, toInts_ints, repo_take, repo_drop, ints_take, ints_drop, ints_append, mk_headD, ei_len, ei_take, Nat.zero_add, Nat.le_refl, List.take_length, ints_snoc, ints_snoc', hs, basesR]
  cases h : hasG l [a] with
  | false => rfl
  | true =>
    cases h' : hasG l [b] with
    | false => rfl
    | true =>
      obtain ⟨h1, h2⟩ := has_right h
      obtain ⟨_, h3⟩ := has_right h'
      have hx := reachesR_len h1 (h2 a (by simp))
      have hy := reachesR_len h1 (h3 b (by simp))
      have hm := hmem a h
      simp only [h1, h2 a (by simp), h3 b (by simp), ld_br, ld_chk', ld_leaf, fd_br, fd_chk', fd_leaf, decide_true, decide_eq_true_eq, if_true, Int.toNat_natCast, Int.natCast_nonneg, Int.ofNat_lt, Bool.false_eq_true, if_false, bne_iff_ne, beq_iff_eq, ne_eq, not_true_eq_false, not_false_eq_true, Bool.not_eq_true', decide_eq_false_iff_not, reduceCtorEq, Bool.and_self]
      generalize reachesR l a = X at hx hm ⊢
      generalize reachesR l b = Y at hy ⊢
      have hloop := loop_list (p := p19) ct19 (b := b19_0) X (fun k (out : List Int) => s19_0 nl t (repo l) none false (ints X) none false (ints Y) out.length 0 k (ints out) []) (fun k out => out.length ≤ k)
        (fun r out => x19_0x0 nl t (repo l) none false (ints X) none false (ints Y) (out ++ r.filter fun x => Y.contains x).length 0 X.length (ints (out ++ r.filter fun x => Y.contains x)) [])
        (by
          intro k out y hy hk ho
          have hw := wrap_same (n := (k : Int) + 1) (by omega) (by omega)
          simp only [t19_0, ld_br, ld_chk', ld_leaf, fd_br, fd_chk', fd_leaf, decide_true, decide_eq_true_eq, if_true, Int.toNat_natCast, Int.natCast_nonneg, Int.ofNat_lt, Bool.false_eq_true, if_false, bne_iff_ne, beq_iff_eq, ne_eq, not_true_eq_false, not_false_eq_true, Bool.not_eq_true', decide_eq_false_iff_not, reduceCtorEq, repo_length, ints_length, ec_ok, ec_par, ec_stamp, ei_ok, ei_i, isRepo_repo, isInts_ints, toRepo_repo, toInts_ints, repo_take, repo_drop, ints_take, ints_drop, ints_append, mk_headD, ei_len, ei_take, Nat.zero_add, Nat.le_refl, List.take_length, ints_snoc, ints_snoc', hk, ints_at hy, hw, filter_snoc_len]
          simp (disch := omega) only [if_pos]
          cases hc : Y.contains y
          · simp only [ld_br, ld_chk', ld_leaf, fd_br, fd_chk', fd_leaf, decide_true, decide_eq_true_eq, if_true, Int.toNat_natCast, Int.natCast_nonneg, Int.ofNat_lt, Bool.false_eq_true, if_false, bne_iff_ne, beq_iff_eq, ne_eq, not_true_eq_false, not_false_eq_true, Bool.not_eq_true', decide_eq_false_iff_not, reduceCtorEq]
            exact .inl ⟨out, by omega, by simp, rfl⟩
          · simp only [if_true, ld_br, ld_chk', ld_leaf, fd_br, fd_chk', fd_leaf, decide_true, decide_eq_true_eq, if_true, Int.toNat_natCast, Int.natCast_nonneg, Int.ofNat_lt, Bool.false_eq_true, if_false, bne_iff_ne, beq_iff_eq, ne_eq, not_true_eq_false, not_false_eq_true, Bool.not_eq_true', decide_eq_false_iff_not, reduceCtorEq]
            exact .inl ⟨out ++ [y], by simp; omega, by simp, by simp⟩)
        (by
          intro out _
          simp only [t19_0, ld_br, ld_chk', ld_leaf, fd_br, fd_chk', fd_leaf, decide_true, decide_eq_true_eq, if_true, Int.toNat_natCast, Int.natCast_nonneg, Int.ofNat_lt, Bool.false_eq_true, if_false, bne_iff_ne, beq_iff_eq, ne_eq, not_true_eq_false, not_false_eq_true, Bool.not_eq_true', decide_eq_false_iff_not, reduceCtorEq, repo_length, ints_length, ec_ok, ec_par, ec_stamp, ei_ok, ei_i, isRepo_repo, isInts_ints, toRepo_repo, toInts_ints, repo_take, repo_drop, ints_take, ints_drop, ints_append, mk_headD, ei_len, ei_take, Nat.zero_add, Nat.le_refl, List.take_length, ints_snoc, ints_snoc', Int.lt_irrefl, List.filter_nil, List.append_nil]
          exact ⟨by simp, trivial⟩) [] (by simp)
      refine fd_ls (p := p19) ct19 (by kernel_rfl) hloop ?_ rfl
      rw [k19_0x0]
      simp only [List.nil_append]
      have hBm : ∀ x ∈ X.filter (fun x => Y.contains x), noNum l.length x = false := fun x hx => hm x (List.mem_filter.1 hx).1
      have hBl : (X.filter fun x => Y.contains x).length ≤ 500 := Nat.le_trans (List.length_filter_le _ _) hx
      generalize X.filter (fun x => Y.contains x) = B at hBm hBl ⊢
      have hloop2 := loop_list (p := p19) ct19 (b := b19_1) B (fun k (out : List Int) => s19_1 nl t (repo l) B.length out.length (ints B) (ints out) k) (fun k out => out.length ≤ k)
        (fun r out => x19_1x0 nl t (repo l) B.length (out ++ basesIn l r).length (ints B) (ints (out ++ basesIn l r)) B.length)
        (by
          intro k out y hy hk ho
          have hw := wrap_same (n := (k : Int) + 1) (by omega) (by omega)
          have hloop3 := loop19_1_0 l nl t h1 B hBm hBl k y hy out.length (ints out)
          refine .inl ⟨if lastOf l y (B.drop (k + 1)) then out ++ [y] else out, ?_, ?_, ?_⟩
          · split
            · simp; omega
            · omega
          · simp only [basesIn]
            cases lastOf l y (B.drop (k + 1)) <;> simp
          · simp only [t19_1, ld_br, ld_chk', ld_leaf, fd_br, fd_chk', fd_leaf, decide_true, decide_eq_true_eq, if_true, Int.toNat_natCast, Int.natCast_nonneg, Int.ofNat_lt, Bool.false_eq_true, if_false, bne_iff_ne, beq_iff_eq, ne_eq, not_true_eq_false, not_false_eq_true, Bool.not_eq_true', decide_eq_false_iff_not, reduceCtorEq, hk, hw]
            refine ld_ls (p := p19) ct19 (by kernel_rfl) hloop3 ?_ rfl
            simp only [k19_1_0x0, ld_br, ld_chk', ld_leaf, fd_br, fd_chk', fd_leaf, decide_true, decide_eq_true_eq, if_true, Int.toNat_natCast, Int.natCast_nonneg, Int.ofNat_lt, Bool.false_eq_true, if_false, bne_iff_ne, beq_iff_eq, ne_eq, not_true_eq_false, not_false_eq_true, Bool.not_eq_true', decide_eq_false_iff_not, reduceCtorEq, repo_length, ints_length, ec_ok, ec_par, ec_stamp, ei_ok, ei_i, isRepo_repo, isInts_ints, toRepo_repo, toInts_ints, repo_take, repo_drop, ints_take, ints_drop, ints_append, mk_headD, ei_len, ei_take, Nat.zero_add, Nat.le_refl, List.take_length, ints_snoc, ints_snoc', hw, ints_at hy, hk]
            simp (disch := omega) only [if_pos]
            cases lastOf l y (B.drop (k + 1))
            · simp only [ld_br, ld_chk', ld_leaf, fd_br, fd_chk', fd_leaf, decide_true, decide_eq_true_eq, if_true, Int.toNat_natCast, Int.natCast_nonneg, Int.ofNat_lt, Bool.false_eq_true, if_false, bne_iff_ne, beq_iff_eq, ne_eq, not_true_eq_false, not_false_eq_true, Bool.not_eq_true', decide_eq_false_iff_not, reduceCtorEq]; rfl
            · simp only [if_true]; simp)
        (by
          intro out _
          simp only [t19_1, ld_br, ld_chk', ld_leaf, fd_br, fd_chk', fd_leaf, decide_true, decide_eq_true_eq, if_true, Int.toNat_natCast, Int.natCast_nonneg, Int.ofNat_lt, Bool.false_eq_true, if_false, bne_iff_ne, beq_iff_eq, ne_eq, not_true_eq_false, not_false_eq_true, Bool.not_eq_true', decide_eq_false_iff_not, reduceCtorEq, repo_length, ints_length, ec_ok, ec_par, ec_stamp, ei_ok, ei_i, isRepo_repo, isInts_ints, toRepo_repo, toInts_ints, repo_take, repo_drop, ints_take, ints_drop, ints_append, mk_headD, ei_len, ei_take, Nat.zero_add, Nat.le_refl, List.take_length, ints_snoc, ints_snoc', Int.lt_irrefl, basesIn, List.append_nil]
          exact ⟨by simp, trivial⟩) [] (by simp)
      refine fd_ls (p := p19) ct19 (by kernel_rfl) hloop2 ?_ rfl
      rw [k19_1x0, fd_leaf, List.take_of_length_le (by simp)]
      simp

/-! ## First, AsOf -/
def lastFromR (l : List Cm) : Nat → Int → Int
  | 0, n => n
  | k + 1, n => match (l.getD (n - 1).toNat ([], 0)).1 with
    | [] => n
    | p :: _ => lastFromR l k p
theorem firstFromR_len (l : List Cm) : ∀ (k : Nat) (n : Int), (firstFromR l k n).length ≤ k
  | 0, n => by simp [firstFromR]
  | k + 1, n => by
    simp only [firstFromR]
    split
    · simp
    · rename_i p _ _
      have := firstFromR_len l k p
      simp only [List.length_cons]; omega
theorem f21 (l : List Cm) (nl : Option Bool) (t : Bool) (n : Int) (hs : smallB l = true) : call E 21 [.c (.sl 2 nl t (repo l)), V.i n] [] = some ([.c (.sl 1 none false (ints (firstR l n)))], []) := by
  have hct : CT.ok E (ctOf [(35, s35)]) := ctOf_cons s35_ok ctOf_nil
  refine call_of (E := E) (sh := sh) (ct := ctOf [(35, s35)]) (na := 2) (m := 0) hct rfl rfl rfl rfl rfl rfl ?_
  simp only [t21, ld_br, ld_chk', ld_leaf, fd_br, fd_chk', fd_leaf, decide_true, decide_eq_true_eq, if_true, Int.toNat_natCast, Int.natCast_nonneg, Int.ofNat_lt, Bool.false_eq_true, if_false, bne_iff_ne, beq_iff_eq, ne_eq, not_true_eq_false, not_false_eq_true, Bool.not_eq_true', decide_eq_false_iff_not, reduceCtorEq, repo_length, ints_length, ec_ok, ec_par, ec_stamp, ei_ok, ei_i, isRepo_repo, isInts_ints, toRepo_repo, toInts_ints, repo_take, repo_drop, ints_take, ints_drop, ints_append, mk_headD, ei_len, ei_take, Nat.zero_add, Nat.le_refl, List.take_length, ints_snoc, ints_snoc', hs, firstR]
  cases h : hasG l [n] with
  | false => rfl
  | true =>
    obtain ⟨h1, h2⟩ := has_right h
    have ha := noNum_iff.1 (h2 n (by simp))
    have hl := right_len h1
    simp only [ld_br, ld_chk', ld_leaf, fd_br, fd_chk', fd_leaf, decide_true, decide_eq_true_eq, if_true, Int.toNat_natCast, Int.natCast_nonneg, Int.ofNat_lt, Bool.false_eq_true, if_false, bne_iff_ne, beq_iff_eq, ne_eq, not_true_eq_false, not_false_eq_true, Bool.not_eq_true', decide_eq_false_iff_not, reduceCtorEq]
    have hloop := loops_of (p := p21) hct (b := b21_0) (fun i : Nat × Int × List Int => s21_0 nl t (repo l) i.2.1 i.2.2.length (ints i.2.2)) (fun i => 1 ≤ i.2.1 ∧ i.2.1 ≤ l.length ∧ i.2.2.length + i.1 = l.length) (fun i => i.1)
      (fun i => x21_0x0 nl t (repo l) (lastFromR l i.1 i.2.1) (i.2.2 ++ firstFromR l i.1 i.2.1).length (ints (i.2.2 ++ firstFromR l i.1 i.2.1)))
      (by
        rintro ⟨k, n, out⟩ ⟨h3, h4, h5⟩
        simp only at h3 h4 h5
        have hw := wrap_same (n := n - 1) (by omega) (by omega)
        have hlt : (n - 1).toNat < l.length := by omega
        obtain ⟨⟨ps, st⟩, hc⟩ : ∃ c, l[(n - 1).toNat]? = some c := ⟨_, List.getElem?_eq_getElem hlt⟩
        cases k with
        | zero =>
          refine .inr ⟨by simp, ?_⟩
          simp only [t21_0, ld_br, ld_chk', ld_leaf, fd_br, fd_chk', fd_leaf, decide_true, decide_eq_true_eq, if_true, Int.toNat_natCast, Int.natCast_nonneg, Int.ofNat_lt, Bool.false_eq_true, if_false, bne_iff_ne, beq_iff_eq, ne_eq, not_true_eq_false, not_false_eq_true, Bool.not_eq_true', decide_eq_false_iff_not, reduceCtorEq, repo_length, ints_length, ec_ok, ec_par, ec_stamp, ei_ok, ei_i, isRepo_repo, isInts_ints, toRepo_repo, toInts_ints, repo_take, repo_drop, ints_take, ints_drop, ints_append, mk_headD, ei_len, ei_take, Nat.zero_add, Nat.le_refl, List.take_length, ints_snoc, ints_snoc', hw, hlt, repo_at hc]
          simp (disch := omega) only [if_pos]
          simp only [firstFromR, lastFromR, List.append_nil, show ¬ out.length < l.length by omega, if_false]
          split <;> rfl
        | succ k =>
          cases ps with
          | nil =>
            refine .inr ⟨by simp, ?_⟩
            simp only [t21_0, ld_br, ld_chk', ld_leaf, fd_br, fd_chk', fd_leaf, decide_true, decide_eq_true_eq, if_true, Int.toNat_natCast, Int.natCast_nonneg, Int.ofNat_lt, Bool.false_eq_true, if_false, bne_iff_ne, beq_iff_eq, ne_eq, not_true_eq_false, not_false_eq_true, Bool.not_eq_true', decide_eq_false_iff_not, reduceCtorEq, repo_length, ints_length, ec_ok, ec_par, ec_stamp, ei_ok, ei_i, isRepo_repo, isInts_ints, toRepo_repo, toInts_ints, repo_take, repo_drop, ints_take, ints_drop, ints_append, mk_headD, ei_len, ei_take, Nat.zero_add, Nat.le_refl, List.take_length, ints_snoc, ints_snoc', hw, hlt, repo_at hc, firstFromR, lastFromR, getD_of hc, List.length_nil, List.append_nil]
            simp (disch := omega) only [if_pos]
            simp
          | cons p ps =>
            have hp := right_par h1 hc p (by simp)
            have e1 : (ints (p :: ps)).getD (Int.toNat 0) [] = ei p := rfl
            have e2 : Int.toNat 0 < (p :: ps).length := by simp
            refine .inl ⟨(k, p, out ++ [p]), ⟨by dsimp only; omega, by dsimp only; omega, by simp; omega⟩, by simp, ?_, ?_⟩
            · simp only [firstFromR, lastFromR, getD_of hc]
              simp
            · simp only [t21_0, ld_br, ld_chk', ld_leaf, fd_br, fd_chk', fd_leaf, decide_true, decide_eq_true_eq, if_true, Int.toNat_natCast, Int.natCast_nonneg, Int.ofNat_lt, Bool.false_eq_true, if_false, bne_iff_ne, beq_iff_eq, ne_eq, not_true_eq_false, not_false_eq_true, Bool.not_eq_true', decide_eq_false_iff_not, reduceCtorEq, repo_length, ints_length, ec_ok, ec_par, ec_stamp, ei_ok, ei_i, isRepo_repo, isInts_ints, toRepo_repo, toInts_ints, repo_take, repo_drop, ints_take, ints_drop, ints_append, mk_headD, ei_len, ei_take, Nat.zero_add, Nat.le_refl, List.take_length, ints_snoc, ints_snoc', hw, hlt, repo_at hc, e1, e2, show out.length < l.length by omega]
              simp (disch := omega) only [if_pos]
              simp) (l.length - 1, n, [n]) ⟨ha.1, ha.2, by simp; omega⟩
    refine fd_ls (p := p21) hct (by kernel_rfl) hloop ?_ rfl
    rw [k21_0x0, fd_leaf, List.take_of_length_le (by simp)]
    rfl
theorem s21_ok : CSpecOk E 21 s21 := by
  intro a h cs vals h' he hc
  unfold s21 at he
  split at he <;> simp only [Option.some.injEq, Prod.mk.injEq, reduceCtorEq] at he
  obtain ⟨rfl, rfl, rfl⟩ := he
  simp only [allT, Bool.and_eq_true, and_true] at hc
  rename_i nl t xs n
  have := f21 (toRepo xs) nl t n hc.2
  rwa [← repo_of hc.1] at this
theorem f23 (l : List Cm) (nl : Option Bool) (t : Bool) (n u : Int) (hs : smallB l = true) (hfm : ∀ x ∈ firstR l n, right l = true ∧ 1 ≤ x ∧ x ≤ l.length) (hlen : (firstR l n).length ≤ 501) : call E 23 [.c (.sl 2 nl t (repo l)), V.i n, V.i u] [] = some ([V.i (asOfR l n u)], []) := by
  have hct : CT.ok E (ctOf [(21, s21)]) := ctOf_cons s21_ok ctOf_nil
  refine call_of (E := E) (sh := sh) (ct := ctOf [(21, s21)]) (na := 3) (m := 0) hct rfl rfl rfl rfl rfl rfl ?_
  simp only [t23, ld_br, ld_chk', ld_leaf, fd_br, fd_chk', fd_leaf, decide_true, decide_eq_true_eq, if_true, Int.toNat_natCast, Int.natCast_nonneg, Int.ofNat_lt, Bool.false_eq_true, if_false, bne_iff_ne, beq_iff_eq, ne_eq, not_true_eq_false, not_false_eq_true, Bool.not_eq_true', decide_eq_false_iff_not, reduceCtorEq, repo_length, ints_length, ec_ok, ec_par, ec_stamp, ei_ok, ei_i, isRepo_repo, isInts_ints, toRepo_repo, toInts_ints, repo_take, repo_drop, ints_take, ints_drop, ints_append, mk_headD, ei_len, ei_take, Nat.zero_add, Nat.le_refl, List.take_length, ints_snoc, ints_snoc', hs]
  unfold asOfR
  generalize firstR l n = fs at hfm hlen
  have hloop := loop_list (p := p23) hct (b := b23_0) fs (fun k (_ : Unit) => s23_0 nl t (repo l) u none false (ints fs) k) (fun _ _ => True)
    (fun r _ => if asOfIn l u r = 0 then x23_0x1 nl t (repo l) u none false (ints fs) fs.length else x23_0x0 (asOfIn l u r))
    (by
      intro k _ x hx hk _
      obtain ⟨h1, h2, h3⟩ := hfm x (List.mem_of_getElem? hx)
      have hl := right_len h1
      have hw := wrap_same (n := (k : Int) + 1) (by omega) (by omega)
      have hw2 := wrap_same (n := x - 1) (by omega) (by omega)
      have hlt : (x - 1).toNat < l.length := by omega
      have hc : l[(x - 1).toNat]? = some l[(x - 1).toNat] := List.getElem?_eq_getElem hlt
      simp only [t23_0, ld_br, ld_chk', ld_leaf, fd_br, fd_chk', fd_leaf, decide_true, decide_eq_true_eq, if_true, Int.toNat_natCast, Int.natCast_nonneg, Int.ofNat_lt, Bool.false_eq_true, if_false, bne_iff_ne, beq_iff_eq, ne_eq, not_true_eq_false, not_false_eq_true, Bool.not_eq_true', decide_eq_false_iff_not, reduceCtorEq, repo_length, ints_length, ec_ok, ec_par, ec_stamp, ei_ok, ei_i, isRepo_repo, isInts_ints, toRepo_repo, toInts_ints, repo_take, repo_drop, ints_take, ints_drop, ints_append, mk_headD, ei_len, ei_take, Nat.zero_add, Nat.le_refl, List.take_length, ints_snoc, ints_snoc', hk, ints_at hx, hw, hw2, hlt, repo_at hc, asOfIn, getD_of hc]
      simp (disch := omega) only [if_pos]
      by_cases hq : l[(x - 1).toNat].2 ≤ u
      · refine .inr ?_
        simp only [if_pos hq]
        rw [if_neg (by omega)]
        exact ⟨by simp, rfl⟩
      · refine .inl ⟨(), trivial, ?_, ?_⟩
        · simp only [if_neg hq]
        · simp only [if_neg hq]; rfl)
    (by
      intro _ _
      simp only [t23_0, ld_br, ld_chk', ld_leaf, fd_br, fd_chk', fd_leaf, decide_true, decide_eq_true_eq, if_true, Int.toNat_natCast, Int.natCast_nonneg, Int.ofNat_lt, Bool.false_eq_true, if_false, bne_iff_ne, beq_iff_eq, ne_eq, not_true_eq_false, not_false_eq_true, Bool.not_eq_true', decide_eq_false_iff_not, reduceCtorEq, repo_length, ints_length, ec_ok, ec_par, ec_stamp, ei_ok, ei_i, isRepo_repo, isInts_ints, toRepo_repo, toInts_ints, repo_take, repo_drop, ints_take, ints_drop, ints_append, mk_headD, ei_len, ei_take, Nat.zero_add, Nat.le_refl, List.take_length, ints_snoc, ints_snoc', Int.lt_irrefl, asOfIn]
      exact ⟨by simp, trivial⟩) () trivial
  by_cases hz : asOfIn l u fs = 0
  · rw [if_pos hz] at hloop
    exact fd_ls (p := p23) hct (by kernel_rfl) hloop (by rw [k23_0x1, fd_leaf, hz]) rfl
  · rw [if_neg hz] at hloop
    exact fd_ls (p := p23) hct (by kernel_rfl) hloop (by rw [k23_0x0, fd_leaf]) rfl

/-! ## SameInts, Same -/
theorem take_step {α : Type} {xs ys : List α} {k : Nat} {x : α} (h : xs.take k = ys.take k) (hx : xs[k]? = some x) (hy : ys[k]? = some x) : xs.take (k + 1) = ys.take (k + 1) := by
  rw [List.take_add_one, List.take_add_one, h, hx, hy]
theorem f14 (xs ys : List Int) (nl : Option Bool) (t : Bool) (nl2 : Option Bool) (t2 : Bool) (hl : xs.length ≤ 4294967296) : call E 14 [.c (.sl 1 nl t (ints xs)), .c (.sl 1 nl2 t2 (ints ys))] [] = some ([V.b (xs == ys)], []) := by
  refine call_of (E := E) (sh := sh) (ct := ctOf []) (na := 2) (m := 0) ctOf_nil rfl rfl rfl rfl rfl rfl ?_
  simp only [t14, ld_br, ld_chk', ld_leaf, fd_br, fd_chk', fd_leaf, decide_true, decide_eq_true_eq, if_true, Int.toNat_natCast, Int.natCast_nonneg, Int.ofNat_lt, Bool.false_eq_true, if_false, bne_iff_ne, beq_iff_eq, ne_eq, not_true_eq_false, not_false_eq_true, Bool.not_eq_true', decide_eq_false_iff_not, reduceCtorEq, repo_length, ints_length, ec_ok, ec_par, ec_stamp, ei_ok, ei_i, isRepo_repo, isInts_ints, toRepo_repo, toInts_ints, repo_take, repo_drop, ints_take, ints_drop, ints_append, mk_headD, ei_len, ei_take, Nat.zero_add, Nat.le_refl, List.take_length, ints_snoc, ints_snoc']
  by_cases h : xs.length = ys.length
  · rw [if_neg (by omega)]
    have hloop := loop_list (p := p14) ctOf_nil (b := b14_0) xs (fun k (_ : Unit) => s14_0 nl t (ints xs) nl2 t2 (ints ys) k) (fun k _ => xs.take k = ys.take k)
      (fun _ _ => cond (xs == ys) (x14_0x1 nl t (ints xs) nl2 t2 (ints ys) xs.length) x14_0x0)
      (by
        intro k _ x hx hk hi
        obtain ⟨y, hy⟩ : ∃ y, ys[k]? = some y := ⟨_, List.getElem?_eq_getElem (by omega)⟩
        have hky : k < ys.length := by omega
        have hw := wrap_same (n := (k : Int) + 1) (by omega) (by omega)
        simp only [t14_0, ld_br, ld_chk', ld_leaf, fd_br, fd_chk', fd_leaf, decide_true, decide_eq_true_eq, if_true, Int.toNat_natCast, Int.natCast_nonneg, Int.ofNat_lt, Bool.false_eq_true, if_false, bne_iff_ne, beq_iff_eq, ne_eq, not_true_eq_false, not_false_eq_true, Bool.not_eq_true', decide_eq_false_iff_not, reduceCtorEq, repo_length, ints_length, ec_ok, ec_par, ec_stamp, ei_ok, ei_i, isRepo_repo, isInts_ints, toRepo_repo, toInts_ints, repo_take, repo_drop, ints_take, ints_drop, ints_append, mk_headD, ei_len, ei_take, Nat.zero_add, Nat.le_refl, List.take_length, ints_snoc, ints_snoc', hk, hky, ints_at hx, ints_at hy, hw]
        by_cases hxy : x = y
        · subst hxy
          exact .inl ⟨(), take_step hi hx hy, trivial, by simp⟩
        · refine .inr ?_
          have : (xs == ys) = false := by
            rw [beq_eq_false_iff_ne]
            intro e
            rw [e, hy] at hx
            exact hxy (Option.some.inj hx).symm
          simp only [this, cond_false, hxy, not_false_eq_true, if_true]
          exact ⟨by simp, trivial⟩)
      (by
        intro _ hi
        have : (xs == ys) = true := by
          rw [beq_iff_eq]
          rwa [List.take_length, h, List.take_length] at hi
        simp only [t14_0, ld_br, ld_chk', ld_leaf, fd_br, fd_chk', fd_leaf, decide_true, decide_eq_true_eq, if_true, Int.toNat_natCast, Int.natCast_nonneg, Int.ofNat_lt, Bool.false_eq_true, if_false, bne_iff_ne, beq_iff_eq, ne_eq, not_true_eq_false, not_false_eq_true, Bool.not_eq_true', decide_eq_false_iff_not, reduceCtorEq, repo_length, ints_length, ec_ok, ec_par, ec_stamp, ei_ok, ei_i, isRepo_repo, isInts_ints, toRepo_repo, toInts_ints, repo_take, repo_drop, ints_take, ints_drop, ints_append, mk_headD, ei_len, ei_take, Nat.zero_add, Nat.le_refl, List.take_length, ints_snoc, ints_snoc', Int.lt_irrefl, this, cond_true]
        exact ⟨by simp, trivial⟩) () (by simp)
    cases hb : xs == ys <;> rw [hb] at hloop
    · exact fd_ls (p := p14) ctOf_nil (by kernel_rfl) hloop (by rw [cond_false, k14_0x0, fd_leaf]) rfl
    · exact fd_ls (p := p14) ctOf_nil (by kernel_rfl) hloop (by rw [cond_true, k14_0x1, fd_leaf]) rfl
  · rw [if_pos (by omega)]
    have : (xs == ys) = false := by
      rw [beq_eq_false_iff_ne]
      exact fun e => h (by rw [e])
    rw [this]
theorem s14_ok : CSpecOk E 14 s14 := by
  intro a h cs vals h' he hc
  unfold s14 at he
  split at he <;> simp only [Option.some.injEq, Prod.mk.injEq, reduceCtorEq] at he
  obtain ⟨rfl, rfl, rfl⟩ := he
  simp only [allT, Bool.and_eq_true, and_true, decide_eq_true_eq] at hc
  rename_i nl t xs nl2 t2 ys
  have := f14 (toInts xs) (toInts ys) nl t nl2 t2 (by rw [toInts_length]; exact hc.2.2)
  rwa [← ints_of hc.1, ← ints_of hc.2.1] at this
theorem f30 (xs ys : List Cm) (nl : Option Bool) (t : Bool) (nl2 : Option Bool) (t2 : Bool) (hl : xs.length ≤ 4294967296) (hs : smallB xs = true) : call E 30 [.c (.sl 2 nl t (repo xs)), .c (.sl 2 nl2 t2 (repo ys))] [] = some ([V.b (xs == ys)], []) := by
  have hct : CT.ok E (ctOf [(14, s14)]) := ctOf_cons s14_ok ctOf_nil
  refine call_of (E := E) (sh := sh) (ct := ctOf [(14, s14)]) (na := 2) (m := 0) hct rfl rfl rfl rfl rfl rfl ?_
  simp only [t30, ld_br, ld_chk', ld_leaf, fd_br, fd_chk', fd_leaf, decide_true, decide_eq_true_eq, if_true, Int.toNat_natCast, Int.natCast_nonneg, Int.ofNat_lt, Bool.false_eq_true, if_false, bne_iff_ne, beq_iff_eq, ne_eq, not_true_eq_false, not_false_eq_true, Bool.not_eq_true', decide_eq_false_iff_not, reduceCtorEq, repo_length, ints_length, ec_ok, ec_par, ec_stamp, ei_ok, ei_i, isRepo_repo, isInts_ints, toRepo_repo, toInts_ints, repo_take, repo_drop, ints_take, ints_drop, ints_append, mk_headD, ei_len, ei_take, Nat.zero_add, Nat.le_refl, List.take_length, ints_snoc, ints_snoc']
  by_cases h : xs.length = ys.length
  · rw [if_neg (by omega)]
    have hloop := loop_list (p := p30) hct (b := b30_0) xs (fun k (_ : Unit) => s30_0 nl t (repo xs) nl2 t2 (repo ys) k) (fun k _ => xs.take k = ys.take k)
      (fun _ _ => cond (xs == ys) (x30_0x1 nl t (repo xs) nl2 t2 (repo ys) xs.length) x30_0x0)
      (by
        intro k _ x hx hk hi
        obtain ⟨y, hy⟩ : ∃ y, ys[k]? = some y := ⟨_, List.getElem?_eq_getElem (by omega)⟩
        have hky : k < ys.length := by omega
        have hw := wrap_same (n := (k : Int) + 1) (by omega) (by omega)
        have hsm := small_of hs x (List.mem_of_getElem? hx)
        simp only [t30_0, ld_br, ld_chk', ld_leaf, fd_br, fd_chk', fd_leaf, decide_true, decide_eq_true_eq, if_true, Int.toNat_natCast, Int.natCast_nonneg, Int.ofNat_lt, Bool.false_eq_true, if_false, bne_iff_ne, beq_iff_eq, ne_eq, not_true_eq_false, not_false_eq_true, Bool.not_eq_true', decide_eq_false_iff_not, reduceCtorEq, repo_length, ints_length, ec_ok, ec_par, ec_stamp, ei_ok, ei_i, isRepo_repo, isInts_ints, toRepo_repo, toInts_ints, repo_take, repo_drop, ints_take, ints_drop, ints_append, mk_headD, ei_len, ei_take, Nat.zero_add, Nat.le_refl, List.take_length, ints_snoc, ints_snoc', hk, hky, repo_at hx, repo_at hy, hw, hsm]
        by_cases hxy : x = y
        · subst hxy
          exact .inl ⟨(), take_step hi hx hy, trivial, by simp⟩
        · refine .inr ?_
          have : (xs == ys) = false := by
            rw [beq_eq_false_iff_ne]
            intro e
            rw [e, hy] at hx
            exact hxy (Option.some.inj hx).symm
          simp only [this, cond_false]
          refine ⟨by simp, ?_⟩
          by_cases h2 : x.2 = y.2
          · rw [if_neg (by simpa using h2), if_pos (by
              rw [beq_eq_false_iff_ne]
              intro h1
              exact hxy (Prod.ext h1 h2))]
          · rw [if_pos h2])
      (by
        intro _ hi
        have : (xs == ys) = true := by
          rw [beq_iff_eq]
          rwa [List.take_length, h, List.take_length] at hi
        simp only [t30_0, ld_br, ld_chk', ld_leaf, fd_br, fd_chk', fd_leaf, decide_true, decide_eq_true_eq, if_true, Int.toNat_natCast, Int.natCast_nonneg, Int.ofNat_lt, Bool.false_eq_true, if_false, bne_iff_ne, beq_iff_eq, ne_eq, not_true_eq_false, not_false_eq_true, Bool.not_eq_true', decide_eq_false_iff_not, reduceCtorEq, repo_length, ints_length, ec_ok, ec_par, ec_stamp, ei_ok, ei_i, isRepo_repo, isInts_ints, toRepo_repo, toInts_ints, repo_take, repo_drop, ints_take, ints_drop, ints_append, mk_headD, ei_len, ei_take, Nat.zero_add, Nat.le_refl, List.take_length, ints_snoc, ints_snoc', Int.lt_irrefl, this, cond_true]
        exact ⟨by simp, trivial⟩) () (by simp)
    cases hb : xs == ys <;> rw [hb] at hloop
    · exact fd_ls (p := p30) hct (by kernel_rfl) hloop (by rw [cond_false, k30_0x0, fd_leaf]) rfl
    · exact fd_ls (p := p30) hct (by kernel_rfl) hloop (by rw [cond_true, k30_0x1, fd_leaf]) rfl
  · rw [if_pos (by omega)]
    have : (xs == ys) = false := by
      rw [beq_eq_false_iff_ne]
      exact fun e => h (by rw [e])
    rw [this]

/-! ## Add -/
theorem smallB_snoc {l : List Cm} {c : Cm} (h : smallB l = true) (hc : c.1.length ≤ 4294967296) : smallB (l ++ [c]) = true := by
  simp only [smallB, List.all_append, List.all_cons, List.all_nil, Bool.and_true, Bool.and_eq_true, decide_eq_true_eq] at h ⊢
  exact ⟨h, hc⟩
theorem repo_snoc (l : List Cm) (c : Cm) : repo l ++ [[C.sl 1 none false (ints c.1), C.int .i64 c.2]] = repo (l ++ [c]) := by simp [repo, ec]
theorem f29 (l : List Cm) (nl : Option Bool) (t : Bool) (c : Cm) (hs : smallB l = true) (hc : c.1.length ≤ 4294967296) (hl : l.length ≤ 500) :
    call E 29 [.c (.sl 2 nl t (repo l)), .agg [.c (.sl 1 none false (ints c.1)), V.i c.2]] [] = some ([.c (.sl 2 none false (repo (addR l c).1)), V.i (addR l c).2], []) := by
  refine call_of (E := E) (sh := sh) (ct := ctOf [(27, s27)]) (na := 2) (m := 0) (ctOf_cons s27_ok ctOf_nil) rfl rfl rfl rfl rfl rfl ?_
  have h2 := smallB_snoc hs hc
  have e : (l ++ [c]).take (l.length + 1) = l ++ [c] := List.take_of_length_le (by simp)
  simp only [t29, ld_br, ld_chk', ld_leaf, fd_br, fd_chk', fd_leaf, decide_true, decide_eq_true_eq, if_true, Int.toNat_natCast, Int.natCast_nonneg, Int.ofNat_lt, Bool.false_eq_true, if_false, bne_iff_ne, beq_iff_eq, ne_eq, not_true_eq_false, not_false_eq_true, Bool.not_eq_true', decide_eq_false_iff_not, reduceCtorEq, repo_length, ints_length, ec_ok, ec_par, ec_stamp, ei_ok, ei_i, isRepo_repo, isInts_ints, toRepo_repo, toInts_ints, repo_take, repo_drop, ints_take, ints_drop, ints_append, mk_headD, ei_len, ei_take, Nat.zero_add, Nat.le_refl, List.take_length, ints_snoc, ints_snoc', hs, List.nil_append, repo_snoc, e, h2]
  simp (disch := omega) only [if_pos]
  unfold addR right
  by_cases h3 : (checkG l).2 = 0
  · by_cases h4 : (checkG (l ++ [c])).2 = 0
    · simp [h3, h4]
    · simp [h3, h4, repo]
  · simp [h3, repo]
theorem f44 (xs : List (List C)) (t : Bool) (hl : xs.length < 4294967296) : call E 44 [.c (.sl 1 none t xs)] [] = some ([.c (.sl 1 none false xs)], []) := by
  cases xs with
  | nil =>
    refine call_split' rfl rfl (show nilArg (E.split 44) [.c (.sl 1 none t [])] = some ([.c (.sl 1 (some true) true [])], [.c (.sl 1 (some false) t [])]) from rfl) rfl rfl ?_ ?_ rfl
    · refine call_of (E := E) (sh := sh) (ct := ctOf []) (na := 1) (m := 0) ctOf_nil rfl rfl rfl rfl rfl rfl ?_
      rw [t44a, fd_br]; rfl
    · refine call_of (E := E) (sh := sh) (ct := ctOf []) (na := 1) (m := 0) ctOf_nil rfl rfl rfl rfl rfl rfl ?_
      rw [t44b, fd_br]; rfl
  | cons x xs =>
    refine call_of (E := E) (sh := sh) (ct := ctOf []) (na := 1) (m := 0) ctOf_nil rfl rfl rfl rfl rfl rfl ?_
    simp only [t44c, ld_br, ld_chk', ld_leaf, fd_br, fd_chk', fd_leaf, decide_true, decide_eq_true_eq, if_true, Int.toNat_natCast, Int.natCast_nonneg, Int.ofNat_lt, Bool.false_eq_true, if_false, bne_iff_ne, beq_iff_eq, ne_eq, not_true_eq_false, not_false_eq_true, Bool.not_eq_true', decide_eq_false_iff_not, reduceCtorEq, Nat.zero_add, hl, List.nil_append, List.take_length]
theorem f45 (xs : List (List C)) (t : Bool) (hl : xs.length < 4294967296) : call E 45 [.c (.sl 2 none t xs)] [] = some ([.buf 0 0 0 xs.length], [.mem 2 0 xs]) := by
  cases xs with
  | nil =>
    refine call_split' rfl rfl (show nilArg (E.split 45) [.c (.sl 2 none t [])] = some ([.c (.sl 2 (some true) true [])], [.c (.sl 2 (some false) t [])]) from rfl) rfl rfl ?_ ?_ rfl
    · refine call_of (E := E) (sh := sh) (ct := ctOf []) (na := 1) (m := 0) ctOf_nil rfl rfl rfl rfl rfl rfl ?_
      rw [t45a, fd_br]; rfl
    · refine call_of (E := E) (sh := sh) (ct := ctOf []) (na := 1) (m := 0) ctOf_nil rfl rfl rfl rfl rfl rfl ?_
      rw [t45b, fd_br]; rfl
  | cons x xs =>
    refine call_of (E := E) (sh := sh) (ct := ctOf []) (na := 1) (m := 0) ctOf_nil rfl rfl rfl rfl rfl rfl ?_
    simp only [t45c, ld_br, ld_chk', ld_leaf, fd_br, fd_chk', fd_leaf, decide_true, decide_eq_true_eq, if_true, Int.toNat_natCast, Int.natCast_nonneg, Int.ofNat_lt, Bool.false_eq_true, if_false, bne_iff_ne, beq_iff_eq, ne_eq, not_true_eq_false, not_false_eq_true, Bool.not_eq_true', decide_eq_false_iff_not, reduceCtorEq, Nat.zero_add, hl, List.nil_append]
theorem s44_ok : CSpecOk E 44 s44 := by
  intro a h cs vals h' he hc
  unfold s44 at he
  split at he <;> simp only [Option.some.injEq, Prod.mk.injEq, reduceCtorEq] at he
  obtain ⟨rfl, rfl, rfl⟩ := he
  simp only [allT, Bool.and_eq_true, and_true, decide_eq_true_eq] at hc
  exact f44 _ _ hc
theorem s45_ok : CSpecOk E 45 s45 := by
  intro a h cs vals h' he hc
  unfold s45 at he
  split at he <;> simp only [Option.some.injEq, Prod.mk.injEq, reduceCtorEq] at he
  obtain ⟨rfl, rfl, rfl⟩ := he
  simp only [allT, Bool.and_eq_true, and_true, decide_eq_true_eq] at hc
  exact f45 _ _ hc
theorem f28 (l : List Cm) (t : Bool) (c : Cm) (hs : smallB l = true) (hc : c.1.length < 4294967296) (hl : l.length ≤ 500) :
    call E 28 [.c (.sl 2 none t (repo l)), .agg [.c (.sl 1 none false (ints c.1)), V.i c.2]] [] = some ([.c (.sl 2 none false (repo (addG l c).1)), V.i (addG l c).2], []) := by
  refine call_of (E := E) (sh := sh) (ct := ctOf [(26, s26), (42, s42), (44, s44), (45, s45)]) (na := 2) (m := 0) (ctOf_cons s26_ok (ctOf_cons s42_ok (ctOf_cons s44_ok (ctOf_cons s45_ok ctOf_nil)))) rfl rfl rfl rfl rfl rfl ?_
  have e : (l ++ [c]).take (l.length + 1) = l ++ [c] := List.take_of_length_le (by simp)
  have e2 : (repo l).take l.length = repo l := List.take_of_length_le (by simp)
  have e3 : ((c.1, c.2) : Cm) = c := rfl
  simp only [t28, ld_br, ld_chk', ld_leaf, fd_br, fd_chk', fd_leaf, decide_true, decide_eq_true_eq, if_true, Int.toNat_natCast, Int.natCast_nonneg, Int.ofNat_lt, Bool.false_eq_true, if_false, bne_iff_ne, beq_iff_eq, ne_eq, not_true_eq_false, not_false_eq_true, Bool.not_eq_true', decide_eq_false_iff_not, reduceCtorEq, repo_length, ints_length, ec_ok, ec_par, ec_stamp, ei_ok, ei_i, isRepo_repo, isInts_ints, toRepo_repo, toInts_ints, repo_take, repo_drop, ints_take, ints_drop, ints_append, mk_headD, ei_len, ei_take, Nat.zero_add, Nat.le_refl, List.take_length, ints_snoc, ints_snoc', hs, hl, hc, Nat.le_of_lt hc, e2, repo_snoc, e, e3]
  simp (disch := omega) only [if_pos]
  unfold addG right
  by_cases h3 : (checkG l).2 = 0
  · simp only [h3, not_true_eq_false, if_false, beq_self_eq_true, if_true]
    by_cases h5 : l.length = 500
    · rw [if_pos (by omega), if_pos h5]; rfl
    · rw [if_neg (by omega), if_neg h5]
      by_cases h4 : faultG l c = 0
      · simp [h4]
      · simp [h4, repo]
  · simp [h3, repo]
end Go.Proofs.Ytkdinelcmanfcaa
