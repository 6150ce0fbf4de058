/-
  Chapter 12 (graph): Reach, Before, Since, Gen, Bases, First, AsOf.
-/
import Derived.Test.YtkdinelcmanfcaaGP6
set_option linter.unusedSimpArgs false
set_option linter.unusedVariables false
namespace Go.Proofs.Ytkdinelcmanfcaa
open Go Go.Ev

theorem s33_ok : CSpecOk E 33 s33 := by
  intro a h cs vals h' he hc
  unfold s33 at he
  split at he <;> simp only [Option.some.injEq, Prod.mk.injEq, reduceCtorEq] at he
  obtain ⟨rfl, rfl, rfl⟩ := he
  simp only [allT, Bool.and_eq_true, and_true, decide_eq_true_eq, Bool.not_eq_true'] at hc
  obtain ⟨h1, h2, h3, h4, h5, h6⟩ := hc
  rename_i nl t xs n bit ms
  have := f33 (toRepo xs) nl t n bit (toInts ms) h5 (by rw [toRepo_length]; exact h6) (by rw [toInts_length]; exact h4)
  rwa [← repo_of h1, ← ints_of h3] at this
theorem ct3 : CT.ok E (ctOf [(32, s32), (33, s33), (37, s37)]) := ctOf_cons s32_ok (ctOf_cons s33_ok (ctOf_cons s37_ok ctOf_nil))
theorem toInts_rep (n : Nat) : toInts (List.replicate n [C.int .i64 0]) = List.replicate n 0 := by simp [toInts, C.i]
theorem isInts_rep (n : Nat) : isInts (List.replicate n [C.int .i64 0]) = true := by simp [isInts, shOk, Sk.ok]
theorem rep_ints (n : Nat) : List.replicate n [C.int .i64 0] = ints (List.replicate n 0) := by simp [ints, ei]
theorem toInts_1 (n : Int) : toInts [[C.int .i64 n]] = [n] := rfl
theorem toInts_2 (n m : Int) : toInts [[C.int .i64 n], [C.int .i64 m]] = [n, m] := rfl
theorem marks0_eq : List.replicate 501 (0 : Int) = marks0 := rfl
theorem marks0_len : marks0.length = 501 := List.length_replicate
theorem has_right {l : List Cm} {s : List Int} (h : hasG l s = true) : right l = true ∧ ∀ n ∈ s, noNum l.length n = false := by
  simp only [hasG, Bool.and_eq_true, Bool.not_eq_true', List.any_eq_false] at h
  exact ⟨h.1, fun n hn => by simpa using h.2 n hn⟩
theorem noNum_iff {len : Nat} {n : Int} : noNum len n = false ↔ 1 ≤ n ∧ n ≤ len := by
  simp only [noNum, Bool.or_eq_false_iff, decide_eq_false_iff_not]; omega

theorem f16 (l : List Cm) (nl : Option Bool) (t : Bool) (n : Int) (hs : smallB l = true) : call E 16 [.c (.sl 2 nl t (repo l)), V.i n] [] = some ([.c (.sl 1 none false (ints (reachL l n)))], []) := by
  refine call_of (E := E) (sh := sh) (ct := ctOf [(32, s32), (33, s33), (37, s37)]) (na := 2) (m := 0) ct3 rfl rfl rfl rfl rfl rfl ?_
  simp only [t16, ld_br, ld_chk', ld_leaf, fd_br, fd_chk', fd_leaf, decide_true, decide_eq_true_eq, if_true, Int.toNat_natCast, Int.natCast_nonneg, Int.ofNat_lt, Bool.false_eq_true, if_false, bne_iff_ne, beq_iff_eq, ne_eq, not_true_eq_false, not_false_eq_true, Bool.not_eq_true', decide_eq_false_iff_not, reduceCtorEq, repo_length, ints_length, ec_ok, ec_par, ec_stamp, ei_ok, ei_i, isRepo_repo, isInts_ints, toRepo_repo, toInts_ints, repo_take, repo_drop, ints_take, ints_drop, ints_append, mk_headD, ei_len, ei_take, Nat.zero_add, Nat.le_refl, List.take_length, ints_snoc, ints_snoc', hs, toInts_1, toInts_rep, marks0_eq, reachL]
  cases h : hasG l [n] with
  | false => rfl
  | true =>
    obtain ⟨h1, h2⟩ := has_right h
    simp only [h1, h2 n (by simp), ld_br, ld_chk', ld_leaf, fd_br, fd_chk', fd_leaf, decide_true, decide_eq_true_eq, if_true, Int.toNat_natCast, Int.natCast_nonneg, Int.ofNat_lt, Bool.false_eq_true, if_false, bne_iff_ne, beq_iff_eq, ne_eq, not_true_eq_false, not_false_eq_true, Bool.not_eq_true', decide_eq_false_iff_not, reduceCtorEq, reachG_len, marks0_len]
theorem f24 (l : List Cm) (nl : Option Bool) (t : Bool) (a n : Int) (hs : smallB l = true) : call E 24 [.c (.sl 2 nl t (repo l)), V.i a, V.i n] [] = some ([.c (.sl 1 none false (ints (sinceG l a n)))], []) := by
  refine call_of (E := E) (sh := sh) (ct := ctOf [(32, s32), (33, s33), (37, s37)]) (na := 3) (m := 0) ct3 rfl rfl rfl rfl rfl rfl ?_
  simp only [t24, ld_br, ld_chk', ld_leaf, fd_br, fd_chk', fd_leaf, decide_true, decide_eq_true_eq, if_true, Int.toNat_natCast, Int.natCast_nonneg, Int.ofNat_lt, Bool.false_eq_true, if_false, bne_iff_ne, beq_iff_eq, ne_eq, not_true_eq_false, not_false_eq_true, Bool.not_eq_true', decide_eq_false_iff_not, reduceCtorEq, repo_length, ints_length, ec_ok, ec_par, ec_stamp, ei_ok, ei_i, isRepo_repo, isInts_ints, toRepo_repo, toInts_ints, repo_take, repo_drop, ints_take, ints_drop, ints_append, mk_headD, ei_len, ei_take, Nat.zero_add, Nat.le_refl, List.take_length, ints_snoc, ints_snoc', hs, toInts_2, toInts_rep, marks0_eq, sinceG]
  cases h : hasG l [a, n] with
  | false => rfl
  | true =>
    obtain ⟨h1, h2⟩ := has_right h
    simp only [h1, h2 n (by simp), h2 a (by simp), ld_br, ld_chk', ld_leaf, fd_br, fd_chk', fd_leaf, decide_true, decide_eq_true_eq, if_true, Int.toNat_natCast, Int.natCast_nonneg, Int.ofNat_lt, Bool.false_eq_true, if_false, bne_iff_ne, beq_iff_eq, ne_eq, not_true_eq_false, not_false_eq_true, Bool.not_eq_true', decide_eq_false_iff_not, reduceCtorEq, reachG_len, marks0_len]
theorem f11 (l : List Cm) (nl : Option Bool) (t : Bool) (a b : Int) (hs : smallB l = true) : call E 11 [.c (.sl 2 nl t (repo l)), V.i a, V.i b] [] = some ([V.b (beforeG l a b)], []) := by
  refine call_of (E := E) (sh := sh) (ct := ctOf [(32, s32), (33, s33), (37, s37)]) (na := 3) (m := 0) ct3 rfl rfl rfl rfl rfl rfl ?_
  simp only [t11, ld_br, ld_chk', ld_leaf, fd_br, fd_chk', fd_leaf, decide_true, decide_eq_true_eq, if_true, Int.toNat_natCast, Int.natCast_nonneg, Int.ofNat_lt, Bool.false_eq_true, if_false, bne_iff_ne, beq_iff_eq, ne_eq, not_true_eq_false, not_false_eq_true, Bool.not_eq_true', decide_eq_false_iff_not, reduceCtorEq, repo_length, ints_length, ec_ok, ec_par, ec_stamp, ei_ok, ei_i, isRepo_repo, isInts_ints, toRepo_repo, toInts_ints, repo_take, repo_drop, ints_take, ints_drop, ints_append, mk_headD, ei_len, ei_take, Nat.zero_add, Nat.le_refl, List.take_length, ints_snoc, ints_snoc', hs, toInts_2, toInts_rep, marks0_eq, beforeG]
  cases h : hasG l [a, b] with
  | false => rfl
  | true =>
    obtain ⟨h1, h2⟩ := has_right h
    have ha := noNum_iff.1 (h2 a (by simp))
    have hl := right_len h1
    have g : a.toNat < (reachG l b 1 marks0).length := by rw [reachG_len, marks0_len]; omega
    simp only [h1, h2 b (by simp), ld_br, ld_chk', ld_leaf, fd_br, fd_chk', fd_leaf, decide_true, decide_eq_true_eq, if_true, Int.toNat_natCast, Int.natCast_nonneg, Int.ofNat_lt, Bool.false_eq_true, if_false, bne_iff_ne, beq_iff_eq, ne_eq, not_true_eq_false, not_false_eq_true, Bool.not_eq_true', decide_eq_false_iff_not, reduceCtorEq, ints_get g, g, ei_len, ei_take, ei_ok, ei_i, Nat.le_refl]
    simp (disch := omega) only [if_pos]

/-! ## Gen -/
@[simp] theorem genIn_len (i : Nat) : ∀ (ps gs : List Int), (genIn i ps gs).length = gs.length
  | [], gs => rfl
  | p :: ps, gs => by simp [genIn, genIn_len i ps]
/-- small numbers -/
def Low (b : Int) (gs : List Int) : Prop := ∀ j, 0 ≤ gs.getD j 0 ∧ gs.getD j 0 ≤ b
theorem low_set {b : Int} {gs : List Int} (h : Low b gs) {i : Nat} {x : Int} (hx : 0 ≤ x ∧ x ≤ b) : Low b (gs.set i x) := by
  intro j
  rw [getD_set]
  split
  · exact hx
  · exact h j
theorem low_mono {b c : Int} {gs : List Int} (h : Low b gs) (hbc : b ≤ c) : Low c gs := fun j => ⟨(h j).1, by have := (h j).2; omega⟩

theorem loop12_0 (nl : Option Bool) (n : Int) (t17 : Bool) (xs : List (List C)) (m : Int) (i : Nat) (ps : List Int) (hp : ∀ p ∈ ps, 1 ≤ p ∧ p ≤ i) (hi : i < 500) (hps : ps.length ≤ 2) (gs : List Int) (hgs : gs.length = 501) (hlow : ∀ j, j ≠ i + 1 → 0 ≤ gs.getD j 0 ∧ gs.getD j 0 ≤ i) (h0 : 0 ≤ gs.getD (i + 1) 0 ∧ gs.getD (i + 1) 0 ≤ i + 1) :
    p12.Loops b12_0_0 (s12_0_0 nl n t17 xs m i none false (ints ps) ps.length 0 (ints gs)) (x12_0_0x0 nl n t17 xs m i none false (ints ps) ps.length ps.length (ints (genIn i ps gs))) := by
  exact loop_list (p := p12) (ctOf_cons s32_ok ctOf_nil) (b := b12_0_0) ps (fun k (gs : List Int) => s12_0_0 nl n t17 xs m i none false (ints ps) ps.length k (ints gs)) (fun _ gs => gs.length = 501 ∧ (∀ j, j ≠ i + 1 → 0 ≤ gs.getD j 0 ∧ gs.getD j 0 ≤ i) ∧ 0 ≤ gs.getD (i + 1) 0 ∧ gs.getD (i + 1) 0 ≤ i + 1)
    (fun r gs => x12_0_0x0 nl n t17 xs m i none false (ints ps) ps.length ps.length (ints (genIn i r gs)))
    (by
      intro k gs p hk hlt ⟨hgs, hlow, hz⟩
      have hw := wrap_same (n := (k : Int) + 1) (by omega) (by omega)
      have hw2 := wrap_same (n := (i : Int) + 1) (by omega) (by omega)
      obtain ⟨h1, h2⟩ := hp p (List.mem_of_getElem? hk)
      have h3 : p.toNat < gs.length := by omega
      have h4 : ((i : Int) + 1).toNat = i + 1 := by omega
      have h5 : i + 1 < gs.length := by omega
      have h6 := hlow p.toNat (by omega)
      have hw3 := wrap_same (n := gs.getD p.toNat 0 + 1) (by omega) (by omega)
      refine .inl ⟨gs.set (i + 1) (if gs.getD (i + 1) 0 < gs.getD p.toNat 0 + 1 then gs.getD p.toNat 0 + 1 else gs.getD (i + 1) 0), ⟨by simpa using hgs, fun j hj => ?_, ?_⟩, rfl, ?_⟩
      · rw [getD_set, if_neg (by omega)]; exact hlow j hj
      · rw [getD_set, if_pos ⟨rfl, h5⟩]; split <;> omega
      · simp only [t12_0_0, ld_br, ld_chk', ld_leaf, fd_br, fd_chk', fd_leaf, decide_true, decide_eq_true_eq, if_true, Int.toNat_natCast, Int.natCast_nonneg, Int.ofNat_lt, Bool.false_eq_true, if_false, bne_iff_ne, beq_iff_eq, ne_eq, not_true_eq_false, not_false_eq_true, Bool.not_eq_true', decide_eq_false_iff_not, reduceCtorEq, repo_length, ints_length, ec_ok, ec_par, ec_stamp, ei_ok, ei_i, isRepo_repo, isInts_ints, toRepo_repo, toInts_ints, repo_take, repo_drop, ints_take, ints_drop, ints_append, mk_headD, ei_len, ei_take, Nat.zero_add, Nat.le_refl, List.take_length, ints_snoc, ints_snoc', hlt, ints_at hk, hw2, h4, h5, h3, ints_get h3, ints_get h5, ei_len, ei_take, ints_set, hw, hw3, Nat.le_refl]
        simp (disch := omega) only [if_pos]
        rfl)
    (by
      intro gs hgs
      simp only [t12_0_0, ld_br, ld_chk', ld_leaf, fd_br, fd_chk', fd_leaf, decide_true, decide_eq_true_eq, if_true, Int.toNat_natCast, Int.natCast_nonneg, Int.ofNat_lt, Bool.false_eq_true, if_false, bne_iff_ne, beq_iff_eq, ne_eq, not_true_eq_false, not_false_eq_true, Bool.not_eq_true', decide_eq_false_iff_not, reduceCtorEq, repo_length, ints_length, ec_ok, ec_par, ec_stamp, ei_ok, ei_i, isRepo_repo, isInts_ints, toRepo_repo, toInts_ints, repo_take, repo_drop, ints_take, ints_drop, ints_append, mk_headD, ei_len, ei_take, Nat.zero_add, Nat.le_refl, List.take_length, ints_snoc, ints_snoc', Int.lt_irrefl, genIn]
      exact ⟨by simp, trivial⟩) gs ⟨hgs, hlow, h0⟩
end Go.Proofs.Ytkdinelcmanfcaa
