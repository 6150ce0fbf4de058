/-
  Chapter 12 (graph): Bases; the reference's Check, is, Gens, Gen.
-/
import Derived.Test.YtkdinelcmanfcaaGT7
set_option linter.unusedSimpArgs false
set_option linter.unusedVariables false
namespace Go.Proofs.Ytkdinelcmanfcaa
open Go Go.Ev


/-! ## Bases -/
def basesMs (l : List Cm) : Nat → List Int → List Int
  | 0, ms => ms
  | n + 1, ms => basesMs l n (if Go.bits .and .i64 (ms.getD (n + 1) 0) 3 = 3 then orAll 4 (l.getD n ([], 0)).1 ms else ms)
theorem ct13 : CT.ok E (ctOf [(32, s32), (33, s33), (34, s34)]) := ctOf_cons s32_ok (ctOf_cons s33_ok (ctOf_cons s34_ok ctOf_nil))
theorem loop13_0 (l : List Cm) (nl : Option Bool) (t : Bool) (n : Int) (ps : List Int) (hp : ∀ p ∈ ps, 1 ≤ p ∧ p ≤ 500) (hps : ps.length ≤ 2) (ms : List Int) (hms : ms.length = 501) (m : Nat) (ys : List (List C)) :
    p13.Loops b13_0_0 (s13_0_0 nl t (repo l) n (ints ms) m none false (ints ps) ps.length 0 ys) (x13_0_0x0 nl t (repo l) n (ints (orAll 4 ps ms)) m none false (ints ps) ps.length ps.length ys) := by
  exact loop_list (p := p13) ct13 (b := b13_0_0) ps (fun k (ms : List Int) => s13_0_0 nl t (repo l) n (ints ms) m none false (ints ps) ps.length k ys) (fun _ ms => ms.length = 501)
    (fun r ms => x13_0_0x0 nl t (repo l) n (ints (orAll 4 r ms)) m none false (ints ps) ps.length ps.length ys)
    (by
      intro k ms p hk hlt hms
      have hw := wrap_same (n := (k : Int) + 1) (by omega) (by omega)
      obtain ⟨h1, h2⟩ := hp p (List.mem_of_getElem? hk)
      refine .inl ⟨ms.set p.toNat (Go.bits .or .i64 (ms.getD p.toNat 0) 4), by simpa using hms, rfl, ?_⟩
      have h3 : p.toNat < ms.length := by omega
      simp only [t13_0_0, ld_br, ld_chk', ld_leaf, fd_br, fd_chk', fd_leaf, decide_true, decide_eq_true_eq, if_true, Int.toNat_natCast, Int.natCast_nonneg, Int.ofNat_lt, Bool.false_eq_true, if_false, bne_iff_ne, beq_iff_eq, ne_eq, not_true_eq_false, not_false_eq_true, Bool.not_eq_true', decide_eq_false_iff_not, reduceCtorEq, repo_length, ints_length, ec_ok, ec_par, ec_stamp, ei_ok, ei_i, isRepo_repo, isInts_ints, toRepo_repo, toInts_ints, repo_take, repo_drop, ints_take, ints_drop, ints_append, mk_headD, ei_len, ei_take, Nat.zero_add, Nat.le_refl, List.take_length, ints_snoc, ints_snoc', hlt, ints_at hk, ints_get h3, ints_set, hw]
      simp (disch := omega) only [if_pos]
      rfl)
    (by
      intro ms hms
      simp only [t13_0_0, ld_br, ld_chk', ld_leaf, fd_br, fd_chk', fd_leaf, decide_true, decide_eq_true_eq, if_true, Int.toNat_natCast, Int.natCast_nonneg, Int.ofNat_lt, Bool.false_eq_true, if_false, bne_iff_ne, beq_iff_eq, ne_eq, not_true_eq_false, not_false_eq_true, Bool.not_eq_true', decide_eq_false_iff_not, reduceCtorEq, repo_length, ints_length, ec_ok, ec_par, ec_stamp, ei_ok, ei_i, isRepo_repo, isInts_ints, toRepo_repo, toInts_ints, repo_take, repo_drop, ints_take, ints_drop, ints_append, mk_headD, ei_len, ei_take, Nat.zero_add, Nat.le_refl, List.take_length, ints_snoc, ints_snoc', Int.lt_irrefl, orAll]
      exact ⟨by simp, trivial⟩) ms hms

theorem f13 (l : List Cm) (nl : Option Bool) (t : Bool) (a b : Int) (hs : smallB l = true) : call E 13 [.c (.sl 2 nl t (repo l)), V.i a, V.i b] [] = some ([.c (.sl 1 none false (ints (basesG l a b)))], []) := by
  refine call_of (E := E) (sh := sh) (ct := ctOf [(32, s32), (33, s33), (34, s34)]) (na := 3) (m := 0) ct13 rfl rfl rfl rfl rfl rfl ?_
  simp only [t13, ld_br, ld_chk', ld_leaf, fd_br, fd_chk', fd_leaf, decide_true, decide_eq_true_eq, if_true, Int.toNat_natCast, Int.natCast_nonneg, Int.ofNat_lt, Bool.false_eq_true, if_false, bne_iff_ne, beq_iff_eq, ne_eq, not_true_eq_false, not_false_eq_true, Bool.not_eq_true', decide_eq_false_iff_not, reduceCtorEq, repo_length, ints_length, ec_ok, ec_par, ec_stamp, ei_ok, ei_i, isRepo_repo, isInts_ints, toRepo_repo, toInts_ints, repo_take, repo_drop, ints_take, ints_drop, ints_append, mk_headD, ei_len, ei_take, Nat.zero_add, Nat.le_refl, List.take_length, ints_snoc, ints_snoc', hs, toInts_2, toInts_rep, marks0_eq, basesG]
  cases h : hasG l [a, b] with
  | false => rfl
  | true =>
    obtain ⟨h1, h2⟩ := has_right h
    have ha := noNum_iff.1 (h2 a (by simp))
    have hb := noNum_iff.1 (h2 b (by simp))
    have hl := right_len h1
    simp only [h1, h2 b (by simp), h2 a (by simp), ld_br, ld_chk', ld_leaf, fd_br, fd_chk', fd_leaf, decide_true, decide_eq_true_eq, if_true, Int.toNat_natCast, Int.natCast_nonneg, Int.ofNat_lt, Bool.false_eq_true, if_false, bne_iff_ne, beq_iff_eq, ne_eq, not_true_eq_false, not_false_eq_true, Bool.not_eq_true', decide_eq_false_iff_not, reduceCtorEq, reachG_len, marks0_len]
    obtain ⟨m0, hm0⟩ : ∃ m0, (if b < a then b else a) = m0 := ⟨_, rfl⟩
    have hmin : (if a < b then a else b) = m0 := by rw [← hm0]; split <;> split <;> omega
    have hm1 : 1 ≤ m0 ∧ m0 ≤ l.length := by rw [← hm0]; split <;> omega
    rw [hm0, hmin]
    generalize hms : reachG l b 2 (reachG l a 1 marks0) = ms0
    have hmsl : ms0.length = 501 := by rw [← hms, reachG_len, reachG_len, marks0_len]
    have hloop := loops_of (p := p13) ct13 (b := b13_0) (fun i : Nat × List Int × List Int => s13_0 nl t (repo l) i.2.2.length i.1 (ints i.2.1) (ints i.2.2)) (fun i => i.1 ≤ l.length ∧ i.2.1.length = 501 ∧ i.2.2.length + i.1 ≤ 501) (fun i => i.1)
      (fun i => x13_0x0 nl t (repo l) (basesFrom l i.1 i.2.1 i.2.2).length 0 (ints (basesMs l i.1 i.2.1)) (ints (basesFrom l i.1 i.2.1 i.2.2)))
      (by
        rintro ⟨i, ms, out⟩ ⟨h3, h4, h5⟩
        simp only at h3 h4 h5
        cases i with
        | zero =>
          refine .inr ⟨by simp, ?_⟩
          show p13.ld b13_0 (p13.lts b13_0 (s13_0 nl t (repo l) out.length 0 (ints ms) (ints out))) = _
          simp only [t13_0, ld_br, ld_chk', ld_leaf, fd_br, fd_chk', fd_leaf, decide_true, decide_eq_true_eq, if_true, Int.toNat_natCast, Int.natCast_nonneg, Int.ofNat_lt, Bool.false_eq_true, if_false, bne_iff_ne, beq_iff_eq, ne_eq, not_true_eq_false, not_false_eq_true, Bool.not_eq_true', decide_eq_false_iff_not, reduceCtorEq, Int.lt_irrefl, basesFrom, basesMs]
        | succ i =>
          have hc : ∃ c, l[i]? = some c := ⟨l[i], List.getElem?_eq_getElem (by omega)⟩
          obtain ⟨c, hc⟩ := hc
          have hw := wrap_same (n := ((i + 1 : Nat) : Int) - 1) (by omega) (by omega)
          have hw2 : ((i + 1 : Nat) : Int) - 1 = (i : Nat) := by omega
          rw [hw2] at hw
          have h6 : i + 1 < ms.length := by omega
          have h7 : i < l.length := by omega
          have hf := right_fault h1 h7
          rw [getD_of hc] at hf
          have hpar : ∀ p ∈ c.1, 1 ≤ p ∧ p ≤ 500 := fun p hp => ⟨(right_par h1 hc p hp).1, by have := (right_par h1 hc p hp).2; omega⟩
          refine .inl ⟨(i, if Go.bits .and .i64 (ms.getD (i + 1) 0) 3 = 3 then orAll 4 (l.getD i ([], 0)).1 ms else ms, if Go.bits .and .i64 (ms.getD (i + 1) 0) 3 = 3 then (if Go.bits .and .i64 (ms.getD (i + 1) 0) 4 = 0 then out ++ [((i + 1 : Nat) : Int)] else out) else out), ⟨by omega, by dsimp only; split <;> simp [h4], ?_⟩, by simp, ?_, ?_⟩
          · dsimp only
            split
            · split
              · simp; omega
              · omega
            · omega
          · dsimp only
            simp only [basesFrom, basesMs]
            by_cases h8 : Go.bits .and .i64 (ms.getD (i + 1) 0) 3 = 3
            · simp only [if_pos h8]
            · simp only [if_neg h8]
          · show p13.ld b13_0 (p13.lts b13_0 (s13_0 nl t (repo l) out.length ((i + 1 : Nat) : Int) (ints ms) (ints out))) = _
            simp only [t13_0, ld_br, ld_chk', ld_leaf, fd_br, fd_chk', fd_leaf, decide_true, decide_eq_true_eq, if_true, Int.toNat_natCast, Int.natCast_nonneg, Int.ofNat_lt, Bool.false_eq_true, if_false, bne_iff_ne, beq_iff_eq, ne_eq, not_true_eq_false, not_false_eq_true, Bool.not_eq_true', decide_eq_false_iff_not, reduceCtorEq, repo_length, ints_length, ec_ok, ec_par, ec_stamp, ei_ok, ei_i, isRepo_repo, isInts_ints, toRepo_repo, toInts_ints, repo_take, repo_drop, ints_take, ints_drop, ints_append, mk_headD, ei_len, ei_take, Nat.zero_add, Nat.le_refl, List.take_length, ints_snoc, ints_snoc', ints_get h6, hw, hw2, repo_at hc, h6, h7, getD_of hc]
            simp (disch := omega) only [if_pos]
            by_cases h8 : Go.bits .and .i64 (ms.getD (i + 1) 0) 3 = 3
            · simp only [h8, not_true_eq_false, if_false, if_true]
              by_cases h9 : Go.bits .and .i64 (ms.getD (i + 1) 0) 4 = 0
              · simp only [h9, if_true]
                refine ld_ls (p := p13) ct13 (by kernel_rfl) (loop13_0 l nl t _ c.1 hpar (fault_zero hf).2.2.1 ms h4 _ _) ?_ rfl
                rw [k13_0_0x0, ld_leaf, hw2, hw]
                simp
              · simp only [if_neg h9]
                refine ld_ls (p := p13) ct13 (by kernel_rfl) (loop13_0 l nl t _ c.1 hpar (fault_zero hf).2.2.1 ms h4 _ _) ?_ rfl
                rw [k13_0_0x0, ld_leaf, hw2, hw]
            · simp only [h8, not_false_eq_true, if_true, if_false]) (m0.toNat, ms0, []) ⟨by dsimp only; omega, hmsl, by dsimp only; simp; omega⟩
    dsimp only at hloop
    rw [show ((m0.toNat : Nat) : Int) = m0 by omega] at hloop
    refine fd_ls (p := p13) ct13 (by kernel_rfl) hloop ?_ rfl
    have hbl : ∀ (i : Nat) (ms out : List Int), (basesFrom l i ms out).length ≤ out.length + i := by
      intro i
      induction i with
      | zero => intro ms out; simp [basesFrom]
      | succ i ih =>
        intro ms out
        simp only [basesFrom]
        split
        · refine Nat.le_trans (ih _ _) ?_
          split
          · simp; omega
          · omega
        · exact Nat.le_trans (ih _ _) (by omega)
    have := hbl m0.toNat ms0 []
    simp only [k13_0x0, ld_br, ld_chk', ld_leaf, fd_br, fd_chk', fd_leaf, decide_true, decide_eq_true_eq, if_true, Int.toNat_natCast, Int.natCast_nonneg, Int.ofNat_lt, Bool.false_eq_true, if_false, bne_iff_ne, beq_iff_eq, ne_eq, not_true_eq_false, not_false_eq_true, Bool.not_eq_true', decide_eq_false_iff_not, reduceCtorEq, repo_length, ints_length, ec_ok, ec_par, ec_stamp, ei_ok, ei_i, isRepo_repo, isInts_ints, toRepo_repo, toInts_ints, repo_take, repo_drop, ints_take, ints_drop, ints_append, mk_headD, ei_len, ei_take, Nat.zero_add, Nat.le_refl, List.take_length, ints_snoc, ints_snoc']
    rw [if_pos (by simp at this; omega), List.take_of_length_le (by simp)]

/-! ## the reference: fault, Check -/
theorem loop43_0 (l : List Cm) (nl : Option Bool) (t : Bool) (n : Int) (hn : 1 ≤ n) (ps : List Int) (hps : ps.length ≤ 2) (st : Int) :
    p43.Loops b43_0 (s43_0 nl t (repo l) n 0 none false (ints ps) st) (cond (ps.any (noNum (n - 1).toNat)) (x43_0x0 none false (ints ps) st) (x43_0x1 nl t (repo l) n ps.length none false (ints ps) st)) := by
  exact loop_list (p := p43) ctOf_nil (b := b43_0) ps (fun k (_ : Unit) => s43_0 nl t (repo l) n k none false (ints ps) st) (fun _ _ => True)
    (fun r _ => cond (r.any (noNum (n - 1).toNat)) (x43_0x0 none false (ints ps) st) (x43_0x1 nl t (repo l) n ps.length none false (ints ps) st))
    (by
      intro k _ p hk hlt _
      have hw := wrap_same (n := (k : Int) + 1) (by omega) (by omega)
      simp only [t43_0, ld_br, ld_chk', ld_leaf, fd_br, fd_chk', fd_leaf, decide_true, decide_eq_true_eq, if_true, Int.toNat_natCast, Int.natCast_nonneg, Int.ofNat_lt, Bool.false_eq_true, if_false, bne_iff_ne, beq_iff_eq, ne_eq, not_true_eq_false, not_false_eq_true, Bool.not_eq_true', decide_eq_false_iff_not, reduceCtorEq, repo_length, ints_length, ec_ok, ec_par, ec_stamp, ei_ok, ei_i, isRepo_repo, isInts_ints, toRepo_repo, toInts_ints, repo_take, repo_drop, ints_take, ints_drop, ints_append, mk_headD, ei_len, ei_take, Nat.zero_add, Nat.le_refl, List.take_length, ints_snoc, ints_snoc', hlt, ints_at hk, hw, List.any_cons]
      by_cases h1 : p < 1
      · have hb : noNum (n - 1).toNat p = true := by simp [noNum, h1]
        simp only [hb, Bool.true_or, cond_true, if_pos h1]
        exact .inr ⟨by simp, trivial⟩
      · rw [if_neg h1]
        by_cases h2 : n ≤ p
        · have hb : noNum (n - 1).toNat p = true := by simp [noNum]; omega
          simp only [hb, Bool.true_or, cond_true, if_pos h2]
          exact .inr ⟨by simp, trivial⟩
        · have h3 : noNum (n - 1).toNat p = false := by rw [noNum_iff]; omega
          rw [if_neg h2]
          exact .inl ⟨(), trivial, by rw [h3, Bool.false_or], rfl⟩)
    (by
      intro _ _
      simp only [t43_0, ld_br, ld_chk', ld_leaf, fd_br, fd_chk', fd_leaf, decide_true, decide_eq_true_eq, if_true, Int.toNat_natCast, Int.natCast_nonneg, Int.ofNat_lt, Bool.false_eq_true, if_false, bne_iff_ne, beq_iff_eq, ne_eq, not_true_eq_false, not_false_eq_true, Bool.not_eq_true', decide_eq_false_iff_not, reduceCtorEq, repo_length, ints_length, ec_ok, ec_par, ec_stamp, ei_ok, ei_i, isRepo_repo, isInts_ints, toRepo_repo, toInts_ints, repo_take, repo_drop, ints_take, ints_drop, ints_append, mk_headD, ei_len, ei_take, Nat.zero_add, Nat.le_refl, List.take_length, ints_snoc, ints_snoc', Int.lt_irrefl, List.any_nil]
      exact ⟨by simp, rfl⟩) () trivial
theorem loop43_1 (l : List Cm) (nl : Option Bool) (t : Bool) (m : Nat) (hm : m ≤ l.length) (hl : l.length ≤ 4294967296) (ps : List Int) (hps : ps.length ≤ 2) (hp : ∀ p ∈ ps, 1 ≤ p ∧ p ≤ m) (st : Int) :
    p43.Loops b43_1 (s43_1 nl t (repo l) none false (ints ps) st 0) (cond (ps.any (lateFor (l.take m) st)) (x43_1x0 none false (ints ps) st) (x43_1x1 nl t (repo l) none false (ints ps) st ps.length)) := by
  exact loop_list (p := p43) ctOf_nil (b := b43_1) ps (fun k (_ : Unit) => s43_1 nl t (repo l) none false (ints ps) st k) (fun _ _ => True)
    (fun r _ => cond (r.any (lateFor (l.take m) st)) (x43_1x0 none false (ints ps) st) (x43_1x1 nl t (repo l) none false (ints ps) st ps.length))
    (by
      intro k _ p hk hlt _
      have hq := hp p (List.mem_of_getElem? hk)
      have hw := wrap_same (n := (k : Int) + 1) (by omega) (by omega)
      have hw2 := wrap_same (n := p - 1) (by omega) (by omega)
      have hlt2 : (p - 1).toNat < l.length := by omega
      have hc : l[(p - 1).toNat]? = some l[(p - 1).toNat] := List.getElem?_eq_getElem hlt2
      have hc2 : (l.take m)[(p - 1).toNat]? = some l[(p - 1).toNat] := by rw [List.getElem?_take, if_pos (by omega), hc]
      simp only [t43_1, ld_br, ld_chk', ld_leaf, fd_br, fd_chk', fd_leaf, decide_true, decide_eq_true_eq, if_true, Int.toNat_natCast, Int.natCast_nonneg, Int.ofNat_lt, Bool.false_eq_true, if_false, bne_iff_ne, beq_iff_eq, ne_eq, not_true_eq_false, not_false_eq_true, Bool.not_eq_true', decide_eq_false_iff_not, reduceCtorEq, repo_length, ints_length, ec_ok, ec_par, ec_stamp, ei_ok, ei_i, isRepo_repo, isInts_ints, toRepo_repo, toInts_ints, repo_take, repo_drop, ints_take, ints_drop, ints_append, mk_headD, ei_len, ei_take, Nat.zero_add, Nat.le_refl, List.take_length, ints_snoc, ints_snoc', hlt, ints_at hk, hw, hw2, hlt2, repo_at hc, List.any_cons, lateFor, getD_of hc2]
      simp (disch := omega) only [if_pos]
      by_cases h2 : st ≤ l[(p - 1).toNat].2
      · simp only [h2, decide_true, Bool.true_or, cond_true, if_true]
        exact .inr ⟨by simp, trivial⟩
      · rw [if_neg h2]
        refine .inl ⟨(), trivial, ?_, rfl⟩
        simp only [h2, decide_false, Bool.false_or])
    (by
      intro _ _
      simp only [t43_1, ld_br, ld_chk', ld_leaf, fd_br, fd_chk', fd_leaf, decide_true, decide_eq_true_eq, if_true, Int.toNat_natCast, Int.natCast_nonneg, Int.ofNat_lt, Bool.false_eq_true, if_false, bne_iff_ne, beq_iff_eq, ne_eq, not_true_eq_false, not_false_eq_true, Bool.not_eq_true', decide_eq_false_iff_not, reduceCtorEq, repo_length, ints_length, ec_ok, ec_par, ec_stamp, ei_ok, ei_i, isRepo_repo, isInts_ints, toRepo_repo, toInts_ints, repo_take, repo_drop, ints_take, ints_drop, ints_append, mk_headD, ei_len, ei_take, Nat.zero_add, Nat.le_refl, List.take_length, ints_snoc, ints_snoc', Int.lt_irrefl, List.any_nil]
      exact ⟨by simp, rfl⟩) () trivial

theorem f43 (l : List Cm) (nl : Option Bool) (t : Bool) (n : Int) (hn : noNum l.length n = false) (hl : l.length ≤ 4294967296) :
    call E 43 [.c (.sl 2 nl t (repo l)), V.i n] [] = some ([V.i (faultG (l.take (n - 1).toNat) (l.getD (n - 1).toNat ([], 0)))], []) := by
  refine call_of (E := E) (sh := sh) (ct := ctOf []) (na := 2) (m := 0) ctOf_nil rfl rfl rfl rfl rfl rfl ?_
  have hn := noNum_iff.1 hn
  have hw := wrap_same (n := n - 1) (by omega) (by omega)
  have hlt : (n - 1).toNat < l.length := by omega
  obtain ⟨⟨ps, st⟩, hc⟩ : ∃ c, l[(n - 1).toNat]? = some c := ⟨_, List.getElem?_eq_getElem hlt⟩
  simp only [t43, ld_br, ld_chk', ld_leaf, fd_br, fd_chk', fd_leaf, decide_true, decide_eq_true_eq, if_true, Int.toNat_natCast, Int.natCast_nonneg, Int.ofNat_lt, Bool.false_eq_true, if_false, bne_iff_ne, beq_iff_eq, ne_eq, not_true_eq_false, not_false_eq_true, Bool.not_eq_true', decide_eq_false_iff_not, reduceCtorEq, repo_length, ints_length, ec_ok, ec_par, ec_stamp, ei_ok, ei_i, isRepo_repo, isInts_ints, toRepo_repo, toInts_ints, repo_take, repo_drop, ints_take, ints_drop, ints_append, mk_headD, ei_len, ei_take, Nat.zero_add, Nat.le_refl, List.take_length, ints_snoc, ints_snoc', hw, hlt, repo_at hc, getD_of hc]
  simp (disch := omega) only [if_pos]
  have hlen : (l.take (n - 1).toNat).length = (n - 1).toNat := by rw [List.length_take]; omega
  unfold faultG
  simp only [hlen]
  by_cases h1 : st < 0
  · rw [if_pos h1, if_pos (.inl h1)]
  rw [if_neg h1]
  by_cases h2 : 1099511627776 < st
  · rw [if_pos h2, if_pos (.inr (.inl h2))]
  rw [if_neg h2]
  by_cases h3 : 2 < ps.length
  · rw [if_pos (by omega), if_pos (.inr (.inr (.inl h3)))]
  rw [if_neg (by omega)]
  have rest : p43.fd (Tr.ls 0 (s43_0 nl t (repo l) n 0 none false (ints ps) st)) = some (R.out [V.i (if (ps.any (noNum (n - 1).toNat)) = true then 17 else if (ps.any (lateFor (l.take (n - 1).toNat) st)) = true then 14 else 0)] []) := by
    have hl0 := loop43_0 l nl t n (by omega) ps (by omega) st
    by_cases h5 : ps.any (noNum (n - 1).toNat) = true
    · rw [h5, cond_true] at hl0
      rw [if_pos h5]
      exact fd_ls (p := p43) ctOf_nil (by kernel_rfl) hl0 (by rw [k43_0x0, fd_leaf]) rfl
    · rw [Bool.not_eq_true _ |>.mp h5, cond_false] at hl0
      rw [if_neg h5]
      have hp : ∀ p ∈ ps, 1 ≤ p ∧ p ≤ (n - 1).toNat := fun p hp => noNum_iff.1 (by
        simp only [Bool.not_eq_true, List.any_eq_false] at h5
        simpa using h5 p hp)
      refine fd_ls (p := p43) ctOf_nil (by kernel_rfl) hl0 ?_ rfl
      rw [k43_0x1]
      have hl1 := loop43_1 l nl t (n - 1).toNat (by omega) hl ps (by omega) hp st
      by_cases h6 : ps.any (lateFor (l.take (n - 1).toNat) st) = true
      · rw [h6, cond_true] at hl1
        rw [if_pos h6]
        exact fd_ls (p := p43) ctOf_nil (by kernel_rfl) hl1 (by rw [k43_1x0, fd_leaf]) rfl
      · rw [Bool.not_eq_true _ |>.mp h6, cond_false] at hl1
        rw [if_neg h6]
        exact fd_ls (p := p43) ctOf_nil (by kernel_rfl) hl1 (by rw [k43_1x1, fd_leaf]) rfl
  by_cases h4 : ps.length = 2
  · rw [if_pos (by omega)]
    match ps, h4 with
    | [a, b], _ =>
      have e1 : (ints [a, b]).getD (Int.toNat 0) [] = ei a := rfl
      have e2 : (ints [a, b]).getD (Int.toNat 1) [] = ei b := rfl
      have e3 : Int.toNat 0 < [a, b].length := by simp
      have e4 : Int.toNat 1 < [a, b].length := by simp
      simp only [e1, e2, e3, e4, ld_br, ld_chk', ld_leaf, fd_br, fd_chk', fd_leaf, decide_true, decide_eq_true_eq, if_true, Int.toNat_natCast, Int.natCast_nonneg, Int.ofNat_lt, Bool.false_eq_true, if_false, bne_iff_ne, beq_iff_eq, ne_eq, not_true_eq_false, not_false_eq_true, Bool.not_eq_true', decide_eq_false_iff_not, reduceCtorEq, repo_length, ints_length, ec_ok, ec_par, ec_stamp, ei_ok, ei_i, isRepo_repo, isInts_ints, toRepo_repo, toInts_ints, repo_take, repo_drop, ints_take, ints_drop, ints_append, mk_headD, ei_len, ei_take, Nat.zero_add, Nat.le_refl, List.take_length, ints_snoc, ints_snoc']
      by_cases h5 : a = b
      · rw [if_pos h5, if_pos (by simp [h5])]
      · rw [if_neg h5, if_neg (by simp [h5, h1, h2])]
        exact rest
  · rw [if_neg (by omega), if_neg (by simp [h1, h2, h3, h4])]
    exact rest
theorem s43_ok : CSpecOk E 43 s43 := by
  intro a h cs vals h' he hc
  unfold s43 at he
  split at he <;> simp only [Option.some.injEq, Prod.mk.injEq, reduceCtorEq] at he
  obtain ⟨rfl, rfl, rfl⟩ := he
  simp only [allT, Bool.and_eq_true, and_true, decide_eq_true_eq, Bool.not_eq_true'] at hc
  rename_i nl t xs n
  have := f43 (toRepo xs) nl t n (by rw [toRepo_length]; exact hc.2.2.1) (by rw [toRepo_length]; exact hc.2.2.2)
  rwa [← repo_of hc.1] at this

theorem checkFrom_fst {l : List Cm} : ∀ {n i : Nat}, (checkFrom l n i).2 = 0 → (checkFrom l n i).1 = l.length
  | 0, i, _ => rfl
  | n + 1, i, h => by
    simp only [checkFrom] at h ⊢
    split
    · rename_i h1
      rw [if_pos h1] at h
      exact checkFrom_fst h
    · rename_i h1
      rw [if_neg h1] at h
      exact absurd h h1

theorem f27 (l : List Cm) (nl : Option Bool) (t : Bool) (hs : smallB l = true) : call E 27 [.c (.sl 2 nl t (repo l))] [] = some ([V.i (checkG l).1, V.i (checkG l).2], []) := by
  have hct : CT.ok E (ctOf [(43, s43)]) := ctOf_cons s43_ok ctOf_nil
  refine call_of (E := E) (sh := sh) (ct := ctOf [(43, s43)]) (na := 1) (m := 0) hct rfl rfl rfl rfl rfl rfl ?_
  simp only [t27, ld_br, ld_chk', ld_leaf, fd_br, fd_chk', fd_leaf, decide_true, decide_eq_true_eq, if_true, Int.toNat_natCast, Int.natCast_nonneg, Int.ofNat_lt, Bool.false_eq_true, if_false, bne_iff_ne, beq_iff_eq, ne_eq, not_true_eq_false, not_false_eq_true, Bool.not_eq_true', decide_eq_false_iff_not, reduceCtorEq, repo_length, ints_length, ec_ok, ec_par, ec_stamp, ei_ok, ei_i, isRepo_repo, isInts_ints, toRepo_repo, toInts_ints, repo_take, repo_drop, ints_take, ints_drop, ints_append, mk_headD, ei_len, ei_take, Nat.zero_add, Nat.le_refl, List.take_length, ints_snoc, ints_snoc']
  unfold checkG
  by_cases h : 500 < l.length
  · rw [if_pos (by omega), if_pos h]
  · rw [if_neg (by omega), if_neg h]
    have hloop := loop_list (p := p27) hct (b := b27_0) l (fun k (_ : Unit) => s27_0 nl t (repo l) ((k : Int) + 1)) (fun _ _ => True)
      (fun r _ => if (checkFrom l r.length (l.length - r.length)).2 = 0 then x27_0x1 nl t (repo l) ((l.length : Int) + 1)
        else x27_0x0 (checkFrom l r.length (l.length - r.length)).1 (checkFrom l r.length (l.length - r.length)).2)
      (by
        intro k _ c hc hk _
        have hw := wrap_same (n := (k : Int) + 1 + 1) (by omega) (by omega)
        have e1 : (c :: l.drop (k + 1)).length = (l.length - (k + 1)) + 1 := by simp
        have e2 : l.length - (l.length - (k + 1) + 1) = k := by omega
        have e3 : (l.drop (k + 1)).length = l.length - (k + 1) := by simp
        have e4 : l.length - (l.length - (k + 1)) = k + 1 := by omega
        have hnn : noNum l.length ((k : Int) + 1) = false := noNum_iff.2 (by omega)
        rw [e1, e2, e3, e4]
        simp only [t27_0, ld_br, ld_chk', ld_leaf, fd_br, fd_chk', fd_leaf, decide_true, decide_eq_true_eq, if_true, Int.toNat_natCast, Int.natCast_nonneg, Int.ofNat_lt, Bool.false_eq_true, if_false, bne_iff_ne, beq_iff_eq, ne_eq, not_true_eq_false, not_false_eq_true, Bool.not_eq_true', decide_eq_false_iff_not, reduceCtorEq, repo_length, ints_length, ec_ok, ec_par, ec_stamp, ei_ok, ei_i, isRepo_repo, isInts_ints, toRepo_repo, toInts_ints, repo_take, repo_drop, ints_take, ints_drop, ints_append, mk_headD, ei_len, ei_take, Nat.zero_add, Nat.le_refl, List.take_length, ints_snoc, ints_snoc', hs, hnn, show ((k : Int) + 1 - 1).toNat = k by omega, hw, checkFrom, getD_of hc]
        simp (disch := omega) only [if_pos]
        by_cases hf : faultG (l.take k) c = 0
        · exact .inl ⟨(), trivial, by rw [if_pos hf], by rw [if_neg (by simp [hf])]; rfl⟩
        · rw [if_neg hf]
          simp only [if_neg hf]
          refine .inr ⟨by simp, ?_⟩
          rw [if_pos hf])
      (by
        intro _ _
        simp only [t27_0, ld_br, ld_chk', ld_leaf, fd_br, fd_chk', fd_leaf, decide_true, decide_eq_true_eq, if_true, Int.toNat_natCast, Int.natCast_nonneg, Int.ofNat_lt, Bool.false_eq_true, if_false, bne_iff_ne, beq_iff_eq, ne_eq, not_true_eq_false, not_false_eq_true, Bool.not_eq_true', decide_eq_false_iff_not, reduceCtorEq, repo_length, ints_length, ec_ok, ec_par, ec_stamp, ei_ok, ei_i, isRepo_repo, isInts_ints, toRepo_repo, toInts_ints, repo_take, repo_drop, ints_take, ints_drop, ints_append, mk_headD, ei_len, ei_take, Nat.zero_add, Nat.le_refl, List.take_length, ints_snoc, ints_snoc', List.length_nil, checkFrom]
        simp (disch := omega) only [if_neg]
        exact ⟨by simp, by simp⟩) () trivial
    rw [Nat.sub_self] at hloop
    by_cases hz : (checkFrom l l.length 0).2 = 0
    · rw [if_pos hz] at hloop
      refine fd_ls (p := p27) hct (by kernel_rfl) hloop ?_ rfl
      rw [k27_0x1, fd_leaf, checkFrom_fst hz, hz, repo_length]
    · rw [if_neg hz] at hloop
      exact fd_ls (p := p27) hct (by kernel_rfl) hloop (by rw [k27_0x0, fd_leaf]) rfl
end Go.Proofs.Ytkdinelcmanfcaa
