/-
  Chapter 12 (graph): the plain law: what the program computes is what the reference computes.
-/
import Derived.Test.YtkdinelcmanfcaaGM1
set_option linter.unusedSimpArgs false
set_option linter.unusedVariables false
namespace Go.Proofs.Ytkdinelcmanfcaa
open Go Go.Ev

theorem natOf {n : Int} (h : 1 ≤ n) : n = ((n.toNat : Nat) : Int) := by omega
theorem reachesR_int {l : List Cm} (ha : Ahead l) {n : Int} (h : 1 ≤ n) : reachesR l n = RL l n.toNat := by
  obtain ⟨k, rfl⟩ : ∃ k : Nat, n = k := ⟨n.toNat, natOf h⟩
  rw [reachesR_eq ha, Int.toNat_natCast]
theorem has_pair {l : List Cm} {a b : Int} : hasG l [a, b] = (hasG l [a] && hasG l [b]) := by
  unfold hasG
  simp only [List.any_cons, List.any_nil, Bool.or_false]
  cases right l <;> cases noNum l.length a <;> cases noNum l.length b <;> rfl
theorem has_one {l : List Cm} {a : Int} (h : hasG l [a] = true) : right l = true ∧ 1 ≤ a ∧ a ≤ l.length := by
  obtain ⟨h1, h2⟩ := has_right h
  exact ⟨h1, noNum_iff.1 (h2 a (by simp))⟩
theorem has_mk {l : List Cm} {a : Int} (h1 : right l = true) (h2 : 1 ≤ a) (h3 : a ≤ l.length) : hasG l [a] = true := by
  simp [hasG, h1, noNum_iff.2 ⟨h2, h3⟩]

/-! ## Reach, Before, Since -/
theorem marks1 {l : List Cm} (hr : right l = true) {n : Int} (h1 : 1 ≤ n) (h2 : n ≤ l.length) : Oct (reachG l n 1 marks0) ∧ (∀ j, on 2 ((reachG l n 1 marks0).getD j 0) = false) ∧ (∀ j, on 4 ((reachG l n 1 marks0).getD j 0) = false) ∧ ∀ j, on 1 ((reachG l n 1 marks0).getD j 0) = rch l n.toNat j := by
  have := reachG_on (right_ahead hr) (right_len hr) (b := 1) (.inl rfl) n.toNat (by omega) oct0 (on0 1 (.inl rfl))
  rw [← natOf h1] at this
  refine ⟨this.1, fun j => ?_, fun j => ?_, this.2.2⟩
  · rw [this.2.1 2 (by simp) (by decide), on0 2 (by simp)]
  · rw [this.2.1 4 (by simp) (by decide), on0 4 (by simp)]
theorem marks2 {l : List Cm} (hr : right l = true) {a b : Int} (h1 : 1 ≤ a) (h2 : a ≤ l.length) (h3 : 1 ≤ b) (h4 : b ≤ l.length) :
    Oct (reachG l b 2 (reachG l a 1 marks0)) ∧ (∀ j, on 4 ((reachG l b 2 (reachG l a 1 marks0)).getD j 0) = false) ∧ (∀ j, on 1 ((reachG l b 2 (reachG l a 1 marks0)).getD j 0) = rch l a.toNat j) ∧ ∀ j, on 2 ((reachG l b 2 (reachG l a 1 marks0)).getD j 0) = rch l b.toNat j := by
  have m := marks1 hr h1 h2
  have := reachG_on (right_ahead hr) (right_len hr) (b := 2) (.inr (.inl rfl)) b.toNat (by omega) m.1 m.2.1
  rw [← natOf h3] at this
  refine ⟨this.1, fun j => ?_, fun j => ?_, this.2.2⟩
  · rw [this.2.1 4 (by simp) (by decide), m.2.2.1]
  · rw [this.2.1 1 (by simp) (by decide), m.2.2.2]
theorem reachL_eq {l : List Cm} {n : Int} (h : hasG l [n] = true) : reachL l n = RL l n.toNat := by
  obtain ⟨hr, h1, h2⟩ := has_one h
  have ha := right_ahead hr
  have hl := right_len hr
  unfold reachL RL listG
  rw [if_pos h]
  have m := marks1 hr h1 h2
  have e : (fun i => (reachG l n 1 marks0).getD i 0 == 1) = rch l n.toNat := by
    funext j
    rw [(bits_eq _ (m.1.2 j)).1, m.2.1, m.2.2.1, m.2.2.2]
    simp
  rw [e, range_filter (n := n.toNat) (by omega) (fun i hi => rch_bnd ha (by omega) hi)]
theorem reach_same (l : List Cm) (n : Int) : reachL l n = reachR l n := by
  cases h : hasG l [n] with
  | false => simp [reachL, reachR, h]
  | true =>
    obtain ⟨hr, h1, h2⟩ := has_one h
    rw [reachL_eq h]
    unfold reachR
    rw [if_pos h, reachesR_int (right_ahead hr) h1]
theorem beforeG_eq {l : List Cm} {a b : Int} (h : hasG l [a] = true) (h' : hasG l [b] = true) : beforeG l a b = rch l b.toNat a.toNat := by
  obtain ⟨hr, h1, h2⟩ := has_one h'
  unfold beforeG
  rw [has_pair, h, h', Bool.and_self, if_pos rfl]
  have m := marks1 hr h1 h2
  rw [(bits_eq _ (m.1.2 _)).1, m.2.1, m.2.2.1, m.2.2.2]
  simp
theorem before_same (l : List Cm) (a b : Int) : beforeG l a b = (reachR l b).contains a := by
  cases h' : hasG l [b] with
  | false => simp [beforeG, reachR, has_pair, h']
  | true =>
    obtain ⟨hr, h1, h2⟩ := has_one h'
    have ha := right_ahead hr
    have e : reachR l b = RL l b.toNat := by
      unfold reachR
      rw [if_pos h', reachesR_int ha h1]
    rw [e, RL_contains ha (by omega)]
    cases h : hasG l [a] with
    | true => rw [beforeG_eq h h']; simp [(has_one h).2.1]
    | false =>
      have : beforeG l a b = false := by simp [beforeG, has_pair, h]
      rw [this]
      symm
      rw [Bool.and_eq_false_imp]
      intro h3
      cases h4 : rch l b.toNat a.toNat with
      | false => rfl
      | true =>
        have := rch_bnd ha (by omega) h4
        simp only [decide_eq_true_eq] at h3
        rw [has_mk hr h3 (by omega)] at h
        simp at h
theorem sinceG_eq {l : List Cm} {a n : Int} (h : hasG l [a] = true) (h' : hasG l [n] = true) : sinceG l a n = ((List.range' 1 n.toNat).filter fun j => rch l n.toNat j && !rch l a.toNat j).map Int.ofNat := by
  obtain ⟨hr, h1, h2⟩ := has_one h
  obtain ⟨_, h3, h4⟩ := has_one h'
  have ha := right_ahead hr
  have hl := right_len hr
  unfold sinceG listG
  rw [has_pair, h, h', Bool.and_self, if_pos rfl]
  have m := marks2 hr h1 h2 h3 h4
  have e : (fun i => (reachG l n 2 (reachG l a 1 marks0)).getD i 0 == 2) = fun j => rch l n.toNat j && !rch l a.toNat j := by
    funext j
    rw [(bits_eq _ (m.1.2 j)).2.1, m.2.1, m.2.2.1, m.2.2.2]
    cases rch l n.toNat j <;> cases rch l a.toNat j <;> rfl
  rw [e, range_filter (n := n.toNat) (by omega) (fun i hi => rch_bnd ha (by omega) (by simp at hi; exact hi.1))]
theorem since_same (l : List Cm) (a n : Int) : sinceG l a n = sinceR l a n := by
  cases h : hasG l [a] with
  | false => simp [sinceG, sinceR, has_pair, h]
  | true =>
    cases h' : hasG l [n] with
    | false => simp [sinceG, sinceR, has_pair, h']
    | true =>
      obtain ⟨hr, h1, h2⟩ := has_one h
      obtain ⟨_, h3, h4⟩ := has_one h'
      have ha := right_ahead hr
      rw [sinceG_eq h h']
      unfold sinceR
      rw [h, h', Bool.and_self, if_pos rfl]
      have e1 : reachesR l n = RL l n.toNat := by exact reachesR_int ha h3
      have e2 : reachesR l a = RL l a.toNat := by exact reachesR_int ha h1
      rw [e1, e2]
      unfold RL
      rw [List.filter_map, List.filter_filter]
      congr 1
      apply List.filter_congr
      intro j hj
      rw [List.mem_range'_1] at hj
      show _ = _
      have := RL_contains ha (n := a.toNat) (by omega) (Int.ofNat j)
      unfold RL at this
      simp only [Function.comp_apply]
      rw [this]
      simp only [Int.ofNat_eq_natCast, Int.toNat_natCast, show (1 : Int) ≤ (j : Int) by omega, decide_true, Bool.true_and, Bool.and_comm]

/-! ## First, AsOf -/
theorem first_same_from {l : List Cm} (ha : Ahead l) : ∀ (k : Nat) (n : Int) (k' : Nat), 1 ≤ n → n ≤ k + 1 → n ≤ k' + 1 → firstFromR l k n = firstFrom l k' (l.getD (n - 1).toNat ([], 0)).1
  | 0, n, k', h1, h2, h3 => by
    have e : (l.getD (n - 1).toNat ([], 0)).1 = [] := by
      match hc : (l.getD (n - 1).toNat ([], 0)).1 with
      | [] => rfl
      | p :: ps =>
        have := ha n.toNat p (by unfold par; rw [show n.toNat - 1 = (n - 1).toNat by omega, hc]; simp)
        omega
    rw [e]
    cases k' <;> rfl
  | k + 1, n, k', h1, h2, h3 => by
    simp only [firstFromR]
    match hc : (l.getD (n - 1).toNat ([], 0)).1 with
    | [] => cases k' <;> rfl
    | p :: ps =>
      have hp := ha n.toNat p (by unfold par; rw [show n.toNat - 1 = (n - 1).toNat by omega, hc]; simp)
      cases k' with
      | zero => omega
      | succ k' =>
        simp only [firstFrom]
        rw [first_same_from ha k p k' hp.1 (by omega) (by omega)]
theorem first_same (l : List Cm) (n : Int) : firstG l n = firstR l n := by
  unfold firstG firstR
  cases h : hasG l [n] with
  | false => rfl
  | true =>
    obtain ⟨hr, h1, h2⟩ := has_one h
    rw [if_pos rfl, if_pos rfl, first_same_from (right_ahead hr) (l.length - 1) n n.toNat h1 (by omega) (by omega)]
theorem asOf_same (l : List Cm) (n t : Int) : asOfG l n t = asOfR l n t := by
  unfold asOfG asOfR
  rw [first_same]

/-! ## Gen -/
theorem gensR_app (r1 r2 : List Cm) (out : List Int) : gensR (r1 ++ r2) out = gensR r2 (gensR r1 out) := by
  induction r1 generalizing out with
  | nil => rfl
  | cons c r ih => simp only [List.cons_append, gensR, ih]
theorem getD_app_left {l m : List Int} {j : Nat} (h : j < l.length) : (l ++ m).getD j 0 = l.getD j 0 := by
  rw [List.getD_eq_getElem?_getD, List.getD_eq_getElem?_getD, List.getElem?_append_left h]
theorem gensR_keep : ∀ (r : List Cm) (out : List Int) (j : Nat), j < out.length → (gensR r out).getD j 0 = out.getD j 0
  | [], _, _, _ => rfl
  | c :: r, out, j, h => by
    simp only [gensR]
    rw [gensR_keep r _ j (by simp; omega), getD_app_left h]
theorem genIn_eq (i : Nat) (out : List Int) (hi : i + 1 < 501) : ∀ (ps gs : List Int) (g : Int), gs.length = 501 → (∀ p ∈ ps, 1 ≤ p ∧ p ≤ i) → (∀ j, j < i → gs.getD (j + 1) 0 = out.getD j 0) → gs.getD (i + 1) 0 = g + 1 →
    (genIn i ps gs).getD (i + 1) 0 = maxP out ps g + 1 ∧ ∀ j, j ≠ i + 1 → (genIn i ps gs).getD j 0 = gs.getD j 0
  | [], gs, g, _, _, _, h => ⟨h, fun _ _ => rfl⟩
  | p :: ps, gs, g, hl, hp, hg, h => by
    have hq := hp p (by simp)
    have hv := hg (p - 1).toNat (by omega)
    rw [show (p - 1).toNat + 1 = p.toNat by omega] at hv
    simp only [genIn, maxP]
    rw [h, hv]
    have ih := genIn_eq i out hi ps (gs.set (i + 1) (if g + 1 < out.getD (p - 1).toNat 0 + 1 then out.getD (p - 1).toNat 0 + 1 else g + 1)) (if g < out.getD (p - 1).toNat 0 then out.getD (p - 1).toNat 0 else g) (by simpa using hl) (fun p hp' => hp p (by simp [hp']))
      (fun j hj => by rw [getD_set, if_neg (by omega)]; exact hg j hj)
      (by rw [getD_set, if_pos ⟨rfl, by omega⟩]; split <;> split <;> omega)
    refine ⟨ih.1, fun j hj => ?_⟩
    rw [ih.2 j hj, getD_set, if_neg (by omega)]
theorem genOut_eq : ∀ (r : List Cm) (i : Nat) (out gs : List Int), out.length = i → gs.length = 501 → i + r.length ≤ 500 → (∀ k c, r[k]? = some c → ∀ p ∈ c.1, 1 ≤ p ∧ p ≤ ((i + k : Nat) : Int)) → (∀ j, j < i → gs.getD (j + 1) 0 = out.getD j 0) →
    ∀ j, j < i + r.length → (genOut r i gs).getD (j + 1) 0 = (gensR r out).getD j 0
  | [], i, out, gs, ho, hl, hs, hp, hg, j, hj => hg j (by simpa using hj)
  | c :: r, i, out, gs, ho, hl, hs, hp, hg, j, hj => by
    simp only [List.length_cons] at hs hj
    have hpc : ∀ p ∈ c.1, 1 ≤ p ∧ p ≤ (i : Int) := fun p h => by have := hp 0 c rfl p h; omega
    have g := genIn_eq i out (by omega) c.1 (gs.set (i + 1) 1) 0 (by simpa using hl) hpc (fun j hj => by rw [getD_set, if_neg (by omega)]; exact hg j hj) (by rw [getD_set, if_pos ⟨rfl, by omega⟩]; rfl)
    simp only [genOut, gensR]
    refine genOut_eq r (i + 1) _ _ (by simp [ho]) (by simp [hl]) (by omega) (fun k c' hk p hp' => by have := hp (k + 1) c' hk p hp'; omega) (fun j hj => ?_) j (by omega)
    rcases Nat.lt_or_ge j i with h | h
    · rw [g.2 _ (by omega), getD_set, if_neg (by omega), hg j h, getD_app_left (by omega)]
    · obtain rfl : j = i := by omega
      rw [g.1, List.getD_eq_getElem?_getD, List.getElem?_append_right (by omega), ho]
      simp
theorem gen_eq {l : List Cm} {n : Int} (h : hasG l [n] = true) : genG l n = (gensR l []).getD (n - 1).toNat 0 := by
  obtain ⟨hr, h1, h2⟩ := has_one h
  have hl := right_len hr
  unfold genG
  rw [if_pos h]
  have hlen : (l.take n.toNat).length = n.toNat := by rw [List.length_take]; omega
  have := genOut_eq (l.take n.toNat) 0 [] marks0 rfl marks0_len (by omega) (fun k c hk p hp => by
    rw [List.getElem?_take] at hk
    split at hk
    · have := right_par hr hk p hp; omega
    · simp at hk) (fun j hj => by omega) (n - 1).toNat (by omega)
  rw [show (n - 1).toNat + 1 = n.toNat by omega] at this
  rw [this]
  have e : l = l.take n.toNat ++ l.drop n.toNat := (List.take_append_drop _ _).symm
  conv => rhs; rw [e, gensR_app]
  rw [gensR_keep (l.drop n.toNat) (gensR (l.take n.toNat) []) (n - 1).toNat (by rw [gensR_len, hlen]; simp; omega)]
theorem gen_same (l : List Cm) (n : Int) : genG l n = genR l n := by
  cases h : hasG l [n] with
  | false => simp [genG, genR, h]
  | true =>
    rw [gen_eq h]
    unfold genR
    rw [if_pos h]

/-! ## Bases -/
/-- The common ones that lead to no other common one in one step. -/
def top (l : List Cm) (C : Nat → Bool) (m j : Nat) : Bool := C j && !(List.range' 1 m).any fun i => C i && (par l i).contains (j : Int)
def kw (l : List Cm) (C : Nat → Bool) : Nat → (Nat → Bool) → Nat → Bool
  | 0, K => K
  | i + 1, K => kw l C i (fun j => K j || (C (i + 1) && (par l (i + 1)).contains (j : Int)))
theorem kw_eq (l : List Cm) (C : Nat → Bool) : ∀ (m : Nat) (K : Nat → Bool) (j : Nat), kw l C m K j = (K j || (List.range' 1 m).any fun i => C i && (par l i).contains (j : Int))
  | 0, K, j => by simp [kw]
  | m + 1, K, j => by
    have hr : List.range' 1 (m + 1) = List.range' 1 m ++ [m + 1] := by rw [List.range'_concat]; congr 2; omega
    simp only [kw]
    rw [kw_eq l C m, hr, List.any_append, List.any_cons, List.any_nil, Bool.or_false, Bool.or_assoc]
    congr 1
    exact Bool.or_comm _ _
theorem basesFrom_eq {l : List Cm} (ha : Ahead l) (hl : l.length ≤ 500) (C : Nat → Bool) : ∀ (n : Nat) (ms out : List Int), Oct ms → (∀ j, (on 1 (ms.getD j 0) && on 2 (ms.getD j 0)) = C j) →
    basesFrom l n ms out = out ++ (((List.range' 1 n).filter fun j => C j && !kw l C n (fun j => on 4 (ms.getD j 0)) j).map Int.ofNat).reverse
  | 0, ms, out, _, _ => by simp [basesFrom]
  | n + 1, ms, out, ho, hC => by
    have hr : List.range' 1 (n + 1) = List.range' 1 n ++ [n + 1] := by rw [List.range'_concat]; congr 2; omega
    have hb := (bits_eq _ (ho.2 (n + 1))).2.2
    rw [hC (n + 1)] at hb
    have hself : kw l C (n + 1) (fun j => on 4 (ms.getD j 0)) (n + 1) = on 4 (ms.getD (n + 1) 0) := by
      rw [kw_eq]
      have : ((List.range' 1 (n + 1)).any fun i => C i && (par l i).contains ((n + 1 : Nat) : Int)) = false := by
        rw [List.any_eq_false]
        intro i hi h
        simp only [Bool.and_eq_true, List.contains_iff_mem] at h
        have := ha _ _ h.2
        rw [List.mem_range'_1] at hi
        omega
      rw [this, Bool.or_false]
    have h4 : (Go.bits .and .i64 (ms.getD (n + 1) 0) 4 = 0) ↔ on 4 (ms.getD (n + 1) 0) = false := by simp only [on, bne_eq_false_iff_eq]
    simp only [basesFrom]
    rw [hr, List.filter_append, List.map_append, List.reverse_append]
    cases hcn : C (n + 1) with
    | true =>
      rw [hcn, beq_iff_eq] at hb
      rw [if_pos hb]
      have hps : ∀ p ∈ (l.getD n ([], 0)).1, 1 ≤ p ∧ p ≤ 500 := fun p hp => by
        have := ha (n + 1) p hp
        omega
      have o1 := orAll_on (b := 4) (b' := 1) (by simp) (by simp) (l.getD n ([], 0)).1 ms ho hps
      have o2 := orAll_on (b := 4) (b' := 2) (by simp) (by simp) (l.getD n ([], 0)).1 ms ho hps
      have o4 := orAll_on (b := 4) (b' := 4) (by simp) (by simp) (l.getD n ([], 0)).1 ms ho hps
      rw [basesFrom_eq ha hl C n _ _ o1.1 (fun j => by
        rw [o1.2, o2.2, ← hC j]
        simp)]
      have hk : (kw l C n fun j => on 4 ((orAll 4 (l.getD n ([], 0)).1 ms).getD j 0)) = kw l C (n + 1) fun j => on 4 (ms.getD j 0) := by
        simp only [kw]
        congr 1
        funext j
        rw [o4.2, hcn]
        simp [par]
      rw [hk]
      simp only [List.filter_cons, List.filter_nil, hself, hcn, Bool.true_and]
      cases h5 : on 4 (ms.getD (n + 1) 0) with
      | true =>
        rw [if_neg (fun h => by rw [h4, h5] at h; cases h)]
        simp
      | false =>
        rw [if_pos (h4.2 h5)]
        simp
    | false =>
      rw [hcn, beq_eq_false_iff_ne] at hb
      rw [if_neg hb, basesFrom_eq ha hl C n _ _ ho hC]
      have hk : (kw l C n fun j => on 4 (ms.getD j 0)) = kw l C (n + 1) fun j => on 4 (ms.getD j 0) := by
        simp only [kw]
        congr 1
        funext j
        rw [hcn]
        simp
      rw [hk]
      simp only [List.filter_cons, List.filter_nil, hcn, Bool.false_and]
      simp
/-- Both reach it. -/
def com (l : List Cm) (a b j : Nat) : Bool := rch l a j && rch l b j
theorem basesG_eq {l : List Cm} {a b : Int} (h : hasG l [a] = true) (h' : hasG l [b] = true) : basesG l a b = ((List.range' 1 (min a.toNat b.toNat)).filter (top l (com l a.toNat b.toNat) (min a.toNat b.toNat))).map Int.ofNat := by
  obtain ⟨hr, h1, h2⟩ := has_one h
  obtain ⟨_, h3, h4⟩ := has_one h'
  have m := marks2 hr h1 h2 h3 h4
  unfold basesG
  rw [has_pair, h, h', Bool.and_self, if_pos rfl]
  have e : (if a < b then a else b).toNat = min a.toNat b.toNat := by split <;> omega
  rw [e, basesFrom_eq (right_ahead hr) (right_len hr) (com l a.toNat b.toNat) _ _ _ m.1 (fun j => by rw [m.2.2.1, m.2.2.2]; rfl)]
  rw [List.nil_append, List.reverse_reverse]
  congr 1
  apply List.filter_congr
  intro j _
  unfold top
  rw [kw_eq, m.2.1, Bool.false_or]
theorem com_le {l : List Cm} (ha : Ahead l) {a b j : Nat} (h1 : 1 ≤ a) (h2 : 1 ≤ b) (h : com l a b j = true) : 1 ≤ j ∧ j ≤ min a b := by
  simp only [com, Bool.and_eq_true] at h
  have := rch_bnd ha h1 h.1
  have := rch_bnd ha h2 h.2
  omega
/-- Tops are those that no other common one reaches. -/
theorem top_iff {l : List Cm} (ha : Ahead l) {a b : Nat} (h1 : 1 ≤ a) (h2 : 1 ≤ b) {j : Nat} : top l (com l a b) (min a b) j = true ↔ com l a b j = true ∧ ∀ i, com l a b i = true → rch l i j = true → i = j := by
  have hcom : ∀ i j, com l a b i = true → Rt l i j → com l a b j = true := by
    intro i j hi hj
    simp only [com, Bool.and_eq_true] at hi ⊢
    exact ⟨(rch_iff ha h1).2 (((rch_iff ha h1).1 hi.1).trans hj), (rch_iff ha h2).2 (((rch_iff ha h2).1 hi.2).trans hj)⟩
  unfold top
  simp only [Bool.and_eq_true, Bool.not_eq_true', List.any_eq_false, not_and, List.contains_iff_mem]
  constructor
  · rintro ⟨hj, hno⟩
    refine ⟨hj, fun i hi hij => ?_⟩
    have hi1 := com_le ha h1 h2 hi
    have hrt := (rch_iff ha hi1.1).1 hij
    cases hrt with
    | refl => rfl
    | step hk hp =>
      rename_i k
      have hk2 := hcom _ _ hi hk
      have hk3 := com_le ha h1 h2 hk2
      exact absurd hp (hno k (by rw [List.mem_range'_1]; omega) hk2)
  · rintro ⟨hj, hno⟩
    refine ⟨hj, fun i _ hi hp => ?_⟩
    have hi1 := com_le ha h1 h2 hi
    have := hno i hi ((rch_iff ha hi1.1).2 (.step .refl hp))
    subst this
    have := ha _ _ hp
    omega
theorem lastOf_iff {l : List Cm} {b : Int} : ∀ {r : List Int}, lastOf l b r = true ↔ ∀ x ∈ r, (reachesR l x).contains b = false
  | [] => by simp [lastOf]
  | x :: r => by simp [lastOf, lastOf_iff (r := r)]
theorem basesIn_eq {l : List Cm} {T : Int → Bool} : ∀ (r : List Int), (∀ r1 x r2, r = r1 ++ x :: r2 → (lastOf l x r2 = T x)) → basesIn l r = r.filter T
  | [], _ => rfl
  | x :: r, h => by
    have h1 := h [] x r rfl
    simp only [basesIn, List.filter_cons, h1]
    rw [basesIn_eq r (fun r1 y r2 e => h (x :: r1) y r2 (by rw [e]; rfl))]
theorem sorted_after {P : Nat → Bool} {n : Nat} {r1 r2 : List Int} {x : Int} (h : ((List.range' 1 n).filter P).map Int.ofNat = r1 ++ x :: r2) : (∀ y ∈ r2, x < y) ∧ ∀ y, y ∈ r2 ↔ y ∈ ((List.range' 1 n).filter P).map Int.ofNat ∧ x < y := by
  have hp : (((List.range' 1 n).filter P).map Int.ofNat).Pairwise (· < ·) := by
    rw [List.pairwise_map]
    refine List.Pairwise.imp (fun h => ?_) ((List.pairwise_lt_range' (s := 1) (n := n) (step := 1)).filter P)
    · simp only [Int.ofNat_eq_natCast]; omega
  rw [h, List.pairwise_append] at hp
  obtain ⟨hp1, hp2, hp3⟩ := hp
  rw [List.pairwise_cons] at hp2
  refine ⟨hp2.1, fun y => ⟨fun hy => ⟨by rw [h]; simp [hy], hp2.1 y hy⟩, fun ⟨hy, hlt⟩ => ?_⟩⟩
  rw [h] at hy
  simp only [List.mem_append, List.mem_cons] at hy
  rcases hy with hy | rfl | hy
  · have := hp3 y hy x (by simp); omega
  · omega
  · exact hy
theorem bases_same (l : List Cm) (a b : Int) : basesG l a b = basesR l a b := by
  cases h : hasG l [a] with
  | false => simp [basesG, basesR, has_pair, h]
  | true =>
    cases h' : hasG l [b] with
    | false => simp [basesG, basesR, has_pair, h']
    | true =>
      obtain ⟨hr, h1, h2⟩ := has_one h
      obtain ⟨_, h3, h4⟩ := has_one h'
      have ha := right_ahead hr
      rw [basesG_eq h h']
      unfold basesR
      rw [h, h', Bool.and_self, if_pos rfl]
      have e1 : reachesR l a = RL l a.toNat := by exact reachesR_int ha h1
      have e2 : reachesR l b = RL l b.toNat := by exact reachesR_int ha h3
      rw [e1, e2]
      -- the common ones, rising
      have e3 : (RL l a.toNat).filter (fun x => (RL l b.toNat).contains x) = ((List.range' 1 (min a.toNat b.toNat)).filter (com l a.toNat b.toNat)).map Int.ofNat := by
        rw [show RL l a.toNat = ((List.range' 1 a.toNat).filter (rch l a.toNat)).map Int.ofNat from rfl, List.filter_map, List.filter_filter]
        congr 1
        have e4 : (List.range' 1 a.toNat).filter (com l a.toNat b.toNat) = (List.range' 1 (min a.toNat b.toNat)).filter (com l a.toNat b.toNat) := by
          have hl := right_len hr
          rw [← range_filter (Q := com l a.toNat b.toNat) (n := a.toNat) (by omega) (fun i hi => by have := com_le ha (by omega) (by omega) hi; omega),
            ← range_filter (Q := com l a.toNat b.toNat) (n := min a.toNat b.toNat) (by omega) (fun i hi => com_le ha (by omega) (by omega) hi)]
        rw [← e4]
        apply List.filter_congr
        intro j hj
        rw [List.mem_range'_1] at hj
        simp only [Function.comp_apply]
        rw [RL_contains ha (by omega)]
        simp only [Int.ofNat_eq_natCast, Int.toNat_natCast, show (1 : Int) ≤ (j : Int) by omega, decide_true, Bool.true_and, com]
        exact Bool.and_comm _ _
      rw [e3]
      rw [basesIn_eq (T := fun x => top l (com l a.toNat b.toNat) (min a.toNat b.toNat) x.toNat)]
      · rw [List.filter_map, List.filter_filter]
        congr 1
        apply List.filter_congr
        intro j _
        simp only [Function.comp_apply, Int.ofNat_eq_natCast, Int.toNat_natCast]
        unfold top
        cases com l a.toNat b.toNat j <;> simp
      · intro r1 x r2 e
        obtain ⟨_, s2⟩ := sorted_after e
        have hx : x ∈ ((List.range' 1 (min a.toNat b.toNat)).filter (com l a.toNat b.toNat)).map Int.ofNat := by rw [e]; simp
        have memc : ∀ y, y ∈ ((List.range' 1 (min a.toNat b.toNat)).filter (com l a.toNat b.toNat)).map Int.ofNat ↔ 1 ≤ y ∧ com l a.toNat b.toNat y.toNat = true := by
          intro y
          rw [List.mem_map]
          constructor
          · rintro ⟨i, hi, rfl⟩
            rw [List.mem_filter, List.mem_range'_1] at hi
            exact ⟨by simp only [Int.ofNat_eq_natCast]; omega, hi.2⟩
          · rintro ⟨q1, q2⟩
            have := com_le ha (by omega) (by omega) q2
            exact ⟨y.toNat, by rw [List.mem_filter, List.mem_range'_1]; exact ⟨by omega, q2⟩, by simp only [Int.ofNat_eq_natCast]; omega⟩
        have hx2 := (memc x).1 hx
        rw [Bool.eq_iff_iff, lastOf_iff, top_iff ha (by omega) (by omega)]
        constructor
        · intro hno
          refine ⟨hx2.2, fun i hi hix => ?_⟩
          have hi1 := com_le ha (by omega) (by omega) hi
          have hle := rch_bnd ha hi1.1 hix
          rcases Nat.lt_or_ge x.toNat i with hlt | hge
          · have := hno (i : Int) ((s2 _).2 ⟨(memc _).2 ⟨by omega, by simpa using hi⟩, by omega⟩)
            rw [reachesR_eq ha, RL_contains ha hi1.1, hix] at this
            simp [hx2.1] at this
          · omega
        · rintro ⟨_, hno⟩ y hy
          have hy2 := (s2 y).1 hy
          have hy3 := (memc y).1 hy2.1
          rw [reachesR_int ha hy3.1, RL_contains ha (by omega)]
          cases hc : rch l y.toNat x.toNat with
          | false => simp
          | true =>
            have := hno y.toNat hy3.2 hc
            omega

/-! ## Add -/
theorem checkFrom_app {l : List Cm} {c : Cm} : ∀ {k i : Nat}, k + i = l.length → (∀ j, i ≤ j → j < l.length → faultG (l.take j) (l.getD j ([], 0)) = 0) → (checkFrom (l ++ [c]) (k + 1) i).2 = faultG l c
  | 0, i, h, _ => by
    have hi : i = l.length := by omega
    subst hi
    have e1 : (l ++ [c]).take l.length = l := by simp
    have e2 : (l ++ [c]).getD l.length ([], 0) = c := by rw [List.getD_eq_getElem?_getD, List.getElem?_append_right (Nat.le_refl _)]; simp
    rw [checkFrom, e1, e2]
    split
    · rename_i h0; rw [h0]; rfl
    · rfl
  | k + 1, i, h, hall => by
    have hlt : i < l.length := by omega
    have e1 : (l ++ [c]).take i = l.take i := by rw [List.take_append_of_le_length (by omega)]
    have e2 : (l ++ [c]).getD i ([], 0) = l.getD i ([], 0) := by rw [List.getD_eq_getElem?_getD, List.getD_eq_getElem?_getD, List.getElem?_append_left hlt]
    rw [checkFrom, e1, e2, if_pos (hall i (Nat.le_refl _) hlt)]
    exact checkFrom_app (by omega) (fun j h1 h2 => hall j (by omega) h2)
theorem add_same {l : List Cm} {c : Cm} (hl : l.length ≤ 60) : addG l c = addR l c := by
  unfold addG addR
  cases hr : right l with
  | false => rfl
  | true =>
    rw [if_pos rfl, if_pos rfl, if_neg (by omega)]
    have e : (checkG (l ++ [c])).2 = faultG l c := by
      unfold checkG
      rw [if_neg (by simp; omega)]
      simp only [List.length_append, List.length_cons, List.length_nil, Nat.zero_add]
      exact checkFrom_app (by omega) (fun j _ h => right_fault hr h)
    by_cases h0 : faultG l c = 0
    · rw [if_pos h0, if_pos (by simp [right, e, h0])]
    · rw [if_neg h0, if_neg (by simp [right, e, h0]), e]
end Go.Proofs.Ytkdinelcmanfcaa
