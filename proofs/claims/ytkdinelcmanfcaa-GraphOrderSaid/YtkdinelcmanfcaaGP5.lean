/-
  Chapter 12 (graph): has, reach, list.
-/
import Derived.Test.YtkdinelcmanfcaaGT6
set_option linter.unusedSimpArgs false
set_option linter.unusedVariables false
namespace Go.Proofs.Ytkdinelcmanfcaa
open Go Go.Ev

theorem small_of {l : List Cm} (h : smallB l = true) : Small l := by
  intro c hc
  simp only [smallB, List.all_eq_true, decide_eq_true_eq] at h
  exact h c hc
theorem s26_ok : CSpecOk E 26 s26 := by
  intro a h cs vals h' he hc
  unfold s26 at he
  split at he <;> simp only [Option.some.injEq, Prod.mk.injEq, reduceCtorEq] at he
  obtain ⟨rfl, rfl, rfl⟩ := he
  simp only [allT, Bool.and_eq_true, and_true] at hc
  rename_i nl t xs
  have := f26 (toRepo xs) nl t (small_of hc.2)
  rwa [← repo_of hc.1] at this

theorem f32 (l : List Cm) (nl : Option Bool) (t : Bool) (some' : List Int) (nl2 : Option Bool) (t2 : Bool) (hs : smallB l = true) (hl : some'.length ≤ 4294967296) :
    call E 32 [.c (.sl 2 nl t (repo l)), .c (.sl 1 nl2 t2 (ints some'))] [] = some ([V.b (hasG l some')], []) := by
  refine call_of (E := E) (sh := sh) (ct := ctOf [(26, s26), (46, s46)]) (na := 2) (m := 0) (ctOf_cons s26_ok (ctOf_cons s46_ok ctOf_nil)) rfl rfl rfl rfl rfl rfl ?_
  simp only [t32, ld_br, ld_chk', ld_leaf, fd_br, fd_chk', fd_leaf, decide_true, decide_eq_true_eq, if_true, Int.toNat_natCast, Int.natCast_nonneg, Int.ofNat_lt, Bool.false_eq_true, if_false, bne_iff_ne, beq_iff_eq, ne_eq, not_true_eq_false, not_false_eq_true, Bool.not_eq_true', decide_eq_false_iff_not, reduceCtorEq, repo_length, ints_length, ec_ok, ec_par, ec_stamp, ei_ok, ei_i, isRepo_repo, isInts_ints, toRepo_repo, toInts_ints, repo_take, repo_drop, ints_take, ints_drop, ints_append, mk_headD, ei_len, ei_take, Nat.zero_add, Nat.le_refl, List.take_length, ints_snoc, ints_snoc', hs, hl, hasG, right]
  by_cases h : (checkG l).2 = 0 <;> simp [h]
theorem s32_ok : CSpecOk E 32 s32 := by
  intro a h cs vals h' he hc
  unfold s32 at he
  split at he <;> simp only [Option.some.injEq, Prod.mk.injEq, reduceCtorEq] at he
  obtain ⟨rfl, rfl, rfl⟩ := he
  simp only [allT, Bool.and_eq_true, and_true, decide_eq_true_eq] at hc
  rename_i nl t xs nl2 t2 ys
  have := f32 (toRepo xs) nl t (toInts ys) nl2 t2 hc.2.1 (by rw [toInts_length]; exact hc.2.2.2)
  rwa [← repo_of hc.1, ← ints_of hc.2.2.1] at this

/-! ## what right commits are -/
theorem checkFrom_ok {l : List Cm} : ∀ {k i : Nat}, k + i = l.length → (checkFrom l k i).2 = 0 → ∀ j, i ≤ j → j < l.length → faultG (l.take j) (l.getD j ([], 0)) = 0
  | 0, i, h, _, j, h1, h2 => by omega
  | k + 1, i, h, hz, j, h1, h2 => by
    simp only [checkFrom] at hz
    by_cases hf : faultG (l.take i) (l.getD i ([], 0)) = 0
    · rw [if_pos hf] at hz
      rcases Nat.lt_or_ge i j with hij | hij
      · exact checkFrom_ok (by omega) hz j (by omega) h2
      · obtain rfl : i = j := by omega
        exact hf
    · rw [if_neg hf] at hz
      exact absurd hz hf
theorem right_len {l : List Cm} (h : right l = true) : l.length ≤ 500 := by
  simp only [right, beq_iff_eq, checkG] at h
  split at h
  · simp at h
  · omega
theorem right_fault {l : List Cm} (h : right l = true) {j : Nat} (hj : j < l.length) : faultG (l.take j) (l.getD j ([], 0)) = 0 := by
  have hl := right_len h
  simp only [right, beq_iff_eq, checkG] at h
  rw [if_neg (by omega)] at h
  exact checkFrom_ok (by omega) h j (by omega) hj
/-- A commit without a fault. -/
theorem fault_zero {l : List Cm} {c : Cm} (h : faultG l c = 0) : 0 ≤ c.2 ∧ c.2 ≤ 1099511627776 ∧ c.1.length ≤ 2 ∧ (∀ p ∈ c.1, 1 ≤ p ∧ p ≤ l.length) ∧ (∀ p ∈ c.1, (l.getD (p - 1).toNat ([], 0)).2 < c.2) := by
  unfold faultG at h
  split at h
  · simp at h
  · rename_i h1
    split at h
    · simp at h
    · rename_i h2
      split at h
      · simp at h
      · rename_i h3
        simp only [not_or] at h1
        refine ⟨by omega, by omega, by omega, fun p hp => ?_, fun p hp => ?_⟩
        · simp only [Bool.not_eq_true, List.any_eq_false] at h2
          have := h2 p hp
          simp only [noNum, Bool.not_eq_true, Bool.or_eq_false_iff, decide_eq_false_iff_not] at this
          omega
        · simp only [Bool.not_eq_true, List.any_eq_false] at h3
          have := h3 p hp
          simp only [lateFor, Bool.not_eq_true, decide_eq_false_iff_not] at this
          omega
theorem right_par {l : List Cm} (h : right l = true) {j : Nat} {c : Cm} (hj : l[j]? = some c) : ∀ p ∈ c.1, 1 ≤ p ∧ p ≤ j := by
  have hlt : j < l.length := (List.getElem?_eq_some_iff.1 hj).1
  have hf := right_fault h hlt
  rw [getD_of hj] at hf
  intro p hp
  have := (fault_zero hf).2.2.2.1 p hp
  rw [List.length_take] at this
  omega

/-! ## reach -/
theorem ints_set (ms : List Int) (i : Nat) (x : Int) : (ints ms).set i [.int .i64 x] = ints (ms.set i x) := by
  simp [ints, ei, List.map_set]
theorem ints_get {ms : List Int} {i : Nat} (h : i < ms.length) : (ints ms).getD i [] = ei (ms.getD i 0) := ints_getD h
@[simp] theorem orAll_len (bit : Int) : ∀ (ps ms : List Int), (orAll bit ps ms).length = ms.length
  | [], ms => rfl
  | p :: ps, ms => by simp [orAll, orAll_len bit ps]
theorem reachFrom_len (l : List Cm) (bit : Int) : ∀ (n : Nat) (ms : List Int), (reachFrom l bit n ms).length = ms.length
  | 0, ms => rfl
  | n + 1, ms => by
    simp only [reachFrom, reachFrom_len l bit n]
    split <;> simp
@[simp] theorem reachG_len (l : List Cm) (n bit : Int) (ms : List Int) : (reachG l n bit ms).length = ms.length := by
  simp [reachG, reachFrom_len]

theorem loop33_0 (l : List Cm) (nl : Option Bool) (t : Bool) (n bit : Int) (ps : List Int) (hp : ∀ p ∈ ps, 1 ≤ p ∧ p ≤ 500) (hps : ps.length ≤ 2) (ms : List Int) (hms : ms.length = 501) :
    p33.Loops b33_0_0 (s33_0_0 nl t (repo l) n bit (ints ms) none false (ints ps) ps.length 0) (x33_0_0x0 nl t (repo l) n bit (ints (orAll bit ps ms)) none false (ints ps) ps.length ps.length) := by
  exact loop_list (p := p33) ctOf_nil (b := b33_0_0) ps (fun k (ms : List Int) => s33_0_0 nl t (repo l) n bit (ints ms) none false (ints ps) ps.length k) (fun _ ms => ms.length = 501)
    (fun r ms => x33_0_0x0 nl t (repo l) n bit (ints (orAll bit r ms)) none false (ints ps) ps.length ps.length)
    (by
      intro k ms p hk hlt hms
      have hw := wrap_same (n := (k : Int) + 1) (by omega) (by omega)
      obtain ⟨h1, h2⟩ := hp p (List.mem_of_getElem? hk)
      refine .inl ⟨ms.set p.toNat (Go.bits .or .i64 (ms.getD p.toNat 0) bit), by simpa using hms, rfl, ?_⟩
      have h3 : p.toNat < ms.length := by omega
      simp only [t33_0_0, ld_br, ld_chk', ld_leaf, fd_br, fd_chk', fd_leaf, decide_true, decide_eq_true_eq, if_true, Int.toNat_natCast, Int.natCast_nonneg, Int.ofNat_lt, Bool.false_eq_true, if_false, bne_iff_ne, beq_iff_eq, ne_eq, not_true_eq_false, not_false_eq_true, Bool.not_eq_true', decide_eq_false_iff_not, reduceCtorEq, repo_length, ints_length, ec_ok, ec_par, ec_stamp, ei_ok, ei_i, isRepo_repo, isInts_ints, toRepo_repo, toInts_ints, repo_take, repo_drop, ints_take, ints_drop, ints_append, mk_headD, ei_len, ei_take, Nat.zero_add, Nat.le_refl, List.take_length, ints_snoc, ints_snoc', hlt, ints_at hk, ints_get h3, ei_len, ei_take, ints_set, hw, Nat.le_refl]
      simp (disch := omega) only [if_pos]
      rfl)
    (by
      intro ms hms
      simp only [t33_0_0, ld_br, ld_chk', ld_leaf, fd_br, fd_chk', fd_leaf, decide_true, decide_eq_true_eq, if_true, Int.toNat_natCast, Int.natCast_nonneg, Int.ofNat_lt, Bool.false_eq_true, if_false, bne_iff_ne, beq_iff_eq, ne_eq, not_true_eq_false, not_false_eq_true, Bool.not_eq_true', decide_eq_false_iff_not, reduceCtorEq, repo_length, ints_length, ec_ok, ec_par, ec_stamp, ei_ok, ei_i, isRepo_repo, isInts_ints, toRepo_repo, toInts_ints, repo_take, repo_drop, ints_take, ints_drop, ints_append, mk_headD, ei_len, ei_take, Nat.zero_add, Nat.le_refl, List.take_length, ints_snoc, ints_snoc', Int.lt_irrefl, orAll]
      exact ⟨by simp, trivial⟩) ms hms

theorem f33 (l : List Cm) (nl : Option Bool) (t : Bool) (n bit : Int) (ms : List Int) (hr : right l = true) (hn : noNum l.length n = false) (hms : ms.length = 501) :
    call E 33 [.ptr 0 0 0 0, .c (.sl 2 nl t (repo l)), V.i n, V.i bit] [.mem 1 0 (ints ms)] = some ([], [.mem 1 0 (ints (reachG l n bit ms))]) := by
  refine call_of (E := E) (sh := sh) (ct := ctOf []) (na := 4) (m := 1) ctOf_nil rfl rfl rfl rfl rfl rfl ?_
  have hlen := right_len hr
  simp only [noNum, Bool.or_eq_false_iff, decide_eq_false_iff_not] at hn
  have hi : n.toNat < ms.length := by omega
  simp only [t33, ld_br, ld_chk', ld_leaf, fd_br, fd_chk', fd_leaf, decide_true, decide_eq_true_eq, if_true, Int.toNat_natCast, Int.natCast_nonneg, Int.ofNat_lt, Bool.false_eq_true, if_false, bne_iff_ne, beq_iff_eq, ne_eq, not_true_eq_false, not_false_eq_true, Bool.not_eq_true', decide_eq_false_iff_not, reduceCtorEq, repo_length, ints_length, ec_ok, ec_par, ec_stamp, ei_ok, ei_i, isRepo_repo, isInts_ints, toRepo_repo, toInts_ints, repo_take, repo_drop, ints_take, ints_drop, ints_append, mk_headD, ei_len, ei_take, Nat.zero_add, Nat.le_refl, List.take_length, ints_snoc, ints_snoc', ints_get hi, ei_len, ei_take, ints_set, Nat.le_refl, show (0 : Int) ≤ n by omega, hi]
  simp (disch := omega) only [if_pos]
  have hloop := loops_of (p := p33) ctOf_nil (b := b33_0) (fun i : Nat × List Int => s33_0 nl t (repo l) i.1 bit (ints i.2)) (fun i => i.1 ≤ l.length ∧ i.2.length = 501) (fun i => i.1)
    (fun i => x33_0x0 nl t (repo l) 0 bit (ints (reachFrom l bit i.1 i.2)))
    (by
      rintro ⟨i, ms⟩ ⟨h1, h2⟩
      simp only at h1 h2 ⊢
      cases i with
      | zero =>
        refine .inr ⟨by simp, ?_⟩
        show p33.ld b33_0 (p33.lts b33_0 (s33_0 nl t (repo l) 0 bit (ints ms))) = _
        simp only [t33_0, ld_br, ld_chk', ld_leaf, fd_br, fd_chk', fd_leaf, decide_true, decide_eq_true_eq, if_true, Int.toNat_natCast, Int.natCast_nonneg, Int.ofNat_lt, Bool.false_eq_true, if_false, bne_iff_ne, beq_iff_eq, ne_eq, not_true_eq_false, not_false_eq_true, Bool.not_eq_true', decide_eq_false_iff_not, reduceCtorEq, repo_length, ints_length, ec_ok, ec_par, ec_stamp, ei_ok, ei_i, isRepo_repo, isInts_ints, toRepo_repo, toInts_ints, repo_take, repo_drop, ints_take, ints_drop, ints_append, mk_headD, ei_len, ei_take, Nat.zero_add, Nat.le_refl, List.take_length, ints_snoc, ints_snoc', Int.lt_irrefl, reachFrom]
      | succ i =>
        have hc : ∃ c, l[i]? = some c := ⟨l[i], List.getElem?_eq_getElem (by omega)⟩
        obtain ⟨c, hc⟩ := hc
        have hw := wrap_same (n := ((i + 1 : Nat) : Int) - 1) (by omega) (by omega)
        have hw2 : ((i + 1 : Nat) : Int) - 1 = (i : Nat) := by omega
        rw [hw2] at hw
        have h3 : i + 1 < ms.length := by omega
        have h4 : i < l.length := by omega
        refine .inl ⟨(i, if Go.bits .and .i64 (ms.getD (i + 1) 0) bit = 0 then ms else orAll bit (l.getD i ([], 0)).1 ms), ⟨by omega, by dsimp only; split <;> simp [h2]⟩, by simp, rfl, ?_⟩
        show p33.ld b33_0 (p33.lts b33_0 (s33_0 nl t (repo l) ((i + 1 : Nat) : Int) bit (ints ms))) = _
        simp only [t33_0, ld_br, ld_chk', ld_leaf, fd_br, fd_chk', fd_leaf, decide_true, decide_eq_true_eq, if_true, Int.toNat_natCast, Int.natCast_nonneg, Int.ofNat_lt, Bool.false_eq_true, if_false, bne_iff_ne, beq_iff_eq, ne_eq, not_true_eq_false, not_false_eq_true, Bool.not_eq_true', decide_eq_false_iff_not, reduceCtorEq, repo_length, ints_length, ec_ok, ec_par, ec_stamp, ei_ok, ei_i, isRepo_repo, isInts_ints, toRepo_repo, toInts_ints, repo_take, repo_drop, ints_take, ints_drop, ints_append, mk_headD, ei_len, ei_take, Nat.zero_add, Nat.le_refl, List.take_length, ints_snoc, ints_snoc', ints_get h3, ei_len, ei_take, Nat.le_refl, hw, hw2, repo_at hc, h3, h4, getD_of hc, show (0 : Int) < ((i + 1 : Nat) : Int) by omega, show ((i + 1 : Nat) : Int) < ((501 : Nat) : Int) by omega]
        by_cases hb : Go.bits .and .i64 (ms.getD (i + 1) 0) bit = 0
        · simp only [hb, if_true]
          simp (disch := omega) only [if_pos]
        · simp only [if_neg hb]
          simp (disch := omega) only [if_pos]
          have hps := right_fault hr h4
          rw [getD_of hc] at hps
          refine ld_ls (p := p33) ctOf_nil (by kernel_rfl) (loop33_0 l nl t _ bit c.1 (fun p hp => ⟨(right_par hr hc p hp).1, by have := (right_par hr hc p hp).2; omega⟩) (fault_zero hps).2.2.1 ms h2) ?_ rfl
          rw [k33_0_0x0, ld_leaf, hw2, hw]) (n.toNat, ms.set n.toNat (Go.bits .or .i64 (ms.getD n.toNat 0) bit)) ⟨by dsimp only; omega, by simpa using hms⟩
  have e : ((n.toNat : Nat) : Int) = n := by omega
  simp only [] at hloop
  rw [e] at hloop
  exact fd_ls (p := p33) ctOf_nil (by kernel_rfl) hloop (by rw [k33_0x0, fd_leaf]; rfl) rfl
end Go.Proofs.Ytkdinelcmanfcaa
