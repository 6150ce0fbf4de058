/-
  Chapter 12 (graph): the plain law: what is reached.
-/
import Derived.Test.YtkdinelcmanfcaaGP11
set_option linter.unusedSimpArgs false
set_option linter.unusedVariables false
namespace Go.Proofs.Ytkdinelcmanfcaa
open Go Go.Ev

/-- The parents of commit i. -/
def par (l : List Cm) (i : Nat) : List Int := (l.getD (i - 1) ([], 0)).1
/-- Parents come ahead. -/
def Ahead (l : List Cm) : Prop := ∀ i, ∀ p ∈ par l i, 1 ≤ p ∧ p < i ∧ i ≤ l.length
theorem right_ahead {l : List Cm} (h : right l = true) : Ahead l := by
  intro i p hp
  unfold par at hp
  by_cases hi : i - 1 < l.length
  · have hc : l[i - 1]? = some l[i - 1] := List.getElem?_eq_getElem hi
    rw [getD_of hc] at hp
    have := right_par h hc p hp
    omega
  · rw [List.getD_eq_getElem?_getD, List.getElem?_eq_none (by omega)] at hp
    simp at hp

/-- j is reached by n. -/
inductive Rt (l : List Cm) (n : Nat) : Nat → Prop
  | refl : Rt l n n
  | step {i j : Nat} : Rt l n i → (j : Int) ∈ par l i → Rt l n j
theorem Rt.trans {l : List Cm} {a b c : Nat} (h : Rt l c b) (k : Rt l b a) : Rt l c a := by
  induction k with
  | refl => exact h
  | step _ hj ih => exact .step ih hj
theorem Rt.le {l : List Cm} (ha : Ahead l) {n j : Nat} (h : Rt l n j) : j ≤ n := by
  induction h with
  | refl => exact Nat.le_refl _
  | step _ hj ih => have := ha _ _ hj; omega
theorem Rt.pos {l : List Cm} (ha : Ahead l) {n j : Nat} (hn : 1 ≤ n) (h : Rt l n j) : 1 ≤ j := by
  induction h with
  | refl => exact hn
  | step _ hj ih => have := ha _ _ hj; omega

/-! ## the sweep -/
def sw (l : List Cm) : Nat → (Nat → Bool) → Nat → Bool
  | 0, S => S
  | i + 1, S => sw l i (fun j => S j || (S (i + 1) && (par l (i + 1)).contains (j : Int)))
theorem sw_above {l : List Cm} (ha : Ahead l) : ∀ {n : Nat} {S : Nat → Bool} {j : Nat}, n < j → sw l n S j = S j
  | 0, _, _, _ => rfl
  | n + 1, S, j, h => by
    simp only [sw]
    rw [sw_above ha (by omega)]
    have : (par l (n + 1)).contains (j : Int) = false := by
      cases hc : (par l (n + 1)).contains (j : Int) with
      | false => rfl
      | true => have := ha _ _ (List.contains_iff_mem.1 hc); omega
    rw [this]; simp
theorem sw_iff {l : List Cm} (ha : Ahead l) : ∀ {n : Nat} {S : Nat → Bool} {j : Nat}, sw l n S j = true ↔ S j = true ∨ ∃ i, 1 ≤ i ∧ i ≤ n ∧ sw l n S i = true ∧ (j : Int) ∈ par l i
  | 0, S, j => by
    simp only [sw]
    constructor
    · exact .inl
    · rintro (h | ⟨i, h1, h2, _⟩)
      · exact h
      · omega
  | n + 1, S, j => by
    have hself : sw l (n + 1) S (n + 1) = S (n + 1) := by
      simp only [sw]
      rw [sw_above ha (by omega)]
      have : (par l (n + 1)).contains ((n + 1 : Nat) : Int) = false := by
        cases hc : (par l (n + 1)).contains ((n + 1 : Nat) : Int) with
        | false => rfl
        | true => have := ha _ _ (List.contains_iff_mem.1 hc); omega
      rw [this]; simp
    simp only [sw]
    rw [sw_iff ha (n := n)]
    simp only [Bool.or_eq_true, Bool.and_eq_true, List.contains_iff_mem]
    constructor
    · rintro ((h | ⟨h1, h2⟩) | ⟨i, h1, h2, h3, h4⟩)
      · exact .inl h
      · refine .inr ⟨n + 1, by omega, by omega, ?_, h2⟩
        have := hself
        simp only [sw] at this
        rw [this]; exact h1
      · exact .inr ⟨i, h1, by omega, h3, h4⟩
    · rintro (h | ⟨i, h1, h2, h3, h4⟩)
      · exact .inl (.inl h)
      · rcases Nat.lt_or_ge n i with h5 | h5
        · obtain rfl : i = n + 1 := by omega
          have := hself
          simp only [sw] at this
          rw [this] at h3
          exact .inl (.inr ⟨h3, h4⟩)
        · exact .inr ⟨i, h1, h5, h3, h4⟩
/-- What n reaches. -/
def rch (l : List Cm) (n j : Nat) : Bool := sw l n (fun j => j == n) j
theorem rch_iff {l : List Cm} (ha : Ahead l) {n j : Nat} (hn : 1 ≤ n) : rch l n j = true ↔ Rt l n j := by
  constructor
  · have main : ∀ (k j : Nat), n - j ≤ k → rch l n j = true → Rt l n j := by
      intro k
      induction k with
      | zero =>
        intro j hk h
        unfold rch at h
        rcases (sw_iff ha).1 h with h | ⟨i, h1, h2, _, h4⟩
        · simp only [beq_iff_eq] at h; subst h; exact .refl
        · have := ha _ _ h4; omega
      | succ k ih =>
        intro j hk h
        unfold rch at h
        rcases (sw_iff ha).1 h with h | ⟨i, h1, h2, h3, h4⟩
        · simp only [beq_iff_eq] at h; subst h; exact .refl
        · have := ha _ _ h4
          exact .step (ih i (by omega) h3) h4
    exact main (n - j) j (Nat.le_refl _)
  · intro h
    induction h with
    | refl => exact (sw_iff ha).2 (.inl (by simp))
    | step h1 h2 ih =>
      exact (sw_iff ha).2 (.inr ⟨_, h1.pos ha hn, h1.le ha, ih, h2⟩)
theorem rch_bnd {l : List Cm} (ha : Ahead l) {n j : Nat} (hn : 1 ≤ n) (h : rch l n j = true) : 1 ≤ j ∧ j ≤ n :=
  ⟨((rch_iff ha hn).1 h).pos ha hn, ((rch_iff ha hn).1 h).le ha⟩

/-! ## marks -/
def on (bit x : Int) : Bool := Go.bits .and .i64 x bit != 0
def Oct (ms : List Int) : Prop := ms.length = 501 ∧ ∀ j, 0 ≤ ms.getD j 0 ∧ ms.getD j 0 ≤ 7
theorem bits_or (x b : Int) (hx : 0 ≤ x ∧ x ≤ 7) (hb : b = 1 ∨ b = 2 ∨ b = 4) : (0 ≤ Go.bits .or .i64 x b ∧ Go.bits .or .i64 x b ≤ 7) ∧ (on 1 (Go.bits .or .i64 x b) = (on 1 x || b == 1)) ∧ (on 2 (Go.bits .or .i64 x b) = (on 2 x || b == 2)) ∧ (on 4 (Go.bits .or .i64 x b) = (on 4 x || b == 4)) := by
  have : x = 0 ∨ x = 1 ∨ x = 2 ∨ x = 3 ∨ x = 4 ∨ x = 5 ∨ x = 6 ∨ x = 7 := by omega
  rcases this with rfl | rfl | rfl | rfl | rfl | rfl | rfl | rfl <;> rcases hb with rfl | rfl | rfl <;> decide
theorem on_or {x b b' : Int} (hx : 0 ≤ x ∧ x ≤ 7) (hb : b = 1 ∨ b = 2 ∨ b = 4) (hb' : b' = 1 ∨ b' = 2 ∨ b' = 4) : on b' (Go.bits .or .i64 x b) = (on b' x || b == b') := by
  have := bits_or x b hx hb
  rcases hb' with rfl | rfl | rfl
  · exact this.2.1
  · exact this.2.2.1
  · exact this.2.2.2
theorem bits_eq (x : Int) (hx : 0 ≤ x ∧ x ≤ 7) : (x == 1) = (on 1 x && !on 2 x && !on 4 x) ∧ (x == 2) = (!on 1 x && on 2 x && !on 4 x) ∧ (Go.bits .and .i64 x 3 == 3) = (on 1 x && on 2 x) := by
  have : x = 0 ∨ x = 1 ∨ x = 2 ∨ x = 3 ∨ x = 4 ∨ x = 5 ∨ x = 6 ∨ x = 7 := by omega
  rcases this with rfl | rfl | rfl | rfl | rfl | rfl | rfl | rfl <;> decide
theorem oct_set {ms : List Int} (h : Oct ms) {i : Nat} {x : Int} (hx : 0 ≤ x ∧ x ≤ 7) : Oct (ms.set i x) := by
  refine ⟨by simpa using h.1, fun j => ?_⟩
  rw [getD_set]
  split
  · exact hx
  · exact h.2 j
theorem orAll_on {b b' : Int} (hb : b = 1 ∨ b = 2 ∨ b = 4) (hb' : b' = 1 ∨ b' = 2 ∨ b' = 4) : ∀ (ps ms : List Int), Oct ms → (∀ p ∈ ps, 1 ≤ p ∧ p ≤ 500) → Oct (orAll b ps ms) ∧ ∀ j, on b' ((orAll b ps ms).getD j 0) = (on b' (ms.getD j 0) || (b == b' && ps.contains (j : Int)))
  | [], ms, h, _ => ⟨h, fun j => by simp [orAll]⟩
  | p :: ps, ms, h, hp => by
    have hq := hp p (by simp)
    have h1 := bits_or (ms.getD p.toNat 0) b (h.2 _) hb
    have ih := orAll_on hb hb' ps _ (oct_set h (i := p.toNat) h1.1) (fun p hp' => hp p (by simp [hp']))
    refine ⟨ih.1, fun j => ?_⟩
    simp only [orAll]
    rw [ih.2 j, getD_set]
    by_cases e : p.toNat = j
    · rw [if_pos ⟨e, by rw [h.1]; omega⟩, on_or (h.2 _) hb hb', e]
      have e2 : (j : Int) = p := by omega
      rw [List.contains_cons, e2]
      simp only [beq_self_eq_true, Bool.true_or, Bool.and_true]
      cases b == b' <;> cases on b' (ms.getD j 0) <;> simp
    · rw [if_neg (fun h => e h.1), List.contains_cons]
      have e2 : ((j : Int) == p) = false := by rw [beq_eq_false_iff_ne]; omega
      rw [e2, Bool.false_or]
theorem reachFrom_on {l : List Cm} (ha : Ahead l) (hl : l.length ≤ 500) {b b' : Int} (hb : b = 1 ∨ b = 2 ∨ b = 4) (hb' : b' = 1 ∨ b' = 2 ∨ b' = 4) : ∀ (n : Nat) (ms : List Int), Oct ms →
    Oct (reachFrom l b n ms) ∧ (b ≠ b' → ∀ j, on b' ((reachFrom l b n ms).getD j 0) = on b' (ms.getD j 0)) ∧ ∀ j, on b ((reachFrom l b n ms).getD j 0) = sw l n (fun j => on b (ms.getD j 0)) j
  | 0, ms, h => ⟨h, fun _ _ => rfl, fun _ => rfl⟩
  | n + 1, ms, h => by
    simp only [reachFrom, sw]
    by_cases hz : Go.bits .and .i64 (ms.getD (n + 1) 0) b = 0
    · have hf : on b (ms.getD (n + 1) 0) = false := by unfold on; rw [hz]; rfl
      rw [if_pos hz]
      have ih := reachFrom_on ha hl hb hb' n ms h
      refine ⟨ih.1, ih.2.1, fun j => ?_⟩
      rw [ih.2.2 j]
      simp only [hf, Bool.false_and, Bool.or_false]
    · have hf : on b (ms.getD (n + 1) 0) = true := by unfold on; rw [bne_iff_ne]; exact hz
      rw [if_neg hz]
      have hps : ∀ p ∈ (l.getD n ([], 0)).1, 1 ≤ p ∧ p ≤ 500 := fun p hp => by
        have := ha (n + 1) p hp
        omega
      have o1 := orAll_on hb hb' (l.getD n ([], 0)).1 ms h hps
      have o2 := orAll_on hb hb (l.getD n ([], 0)).1 ms h hps
      have ih := reachFrom_on ha hl hb hb' n _ o1.1
      refine ⟨ih.1, fun hne j => ?_, fun j => ?_⟩
      · rw [ih.2.1 hne j, o1.2 j]
        have : (b == b') = false := by rw [beq_eq_false_iff_ne]; exact hne
        rw [this]; simp
      · rw [ih.2.2 j]
        congr 1
        funext j
        rw [o2.2 j, hf]
        simp [par]
theorem oct0 : Oct marks0 := by
  refine ⟨marks0_len, fun j => ?_⟩
  unfold marks0
  rw [List.getD_eq_getElem?_getD, List.getElem?_replicate]
  split <;> simp
theorem on0 (b : Int) (hb : b = 1 ∨ b = 2 ∨ b = 4) (j : Nat) : on b (marks0.getD j 0) = false := by
  have : marks0.getD j 0 = 0 := by
    unfold marks0
    rw [List.getD_eq_getElem?_getD, List.getElem?_replicate]
    split <;> simp
  rw [this]
  rcases hb with rfl | rfl | rfl <;> decide
theorem reachG_on {l : List Cm} (ha : Ahead l) (hl : l.length ≤ 500) {b : Int} (hb : b = 1 ∨ b = 2 ∨ b = 4) (n : Nat) (hn : 1 ≤ n ∧ n ≤ l.length) {ms : List Int} (h : Oct ms) (h0 : ∀ j, on b (ms.getD j 0) = false) :
    Oct (reachG l n b ms) ∧ (∀ b', b' = 1 ∨ b' = 2 ∨ b' = 4 → b ≠ b' → ∀ j, on b' ((reachG l n b ms).getD j 0) = on b' (ms.getD j 0)) ∧ ∀ j, on b ((reachG l n b ms).getD j 0) = rch l n j := by
  unfold reachG
  rw [Int.toNat_natCast]
  have h1 := bits_or (ms.getD n 0) b (h.2 _) hb
  have h2 := oct_set h (i := n) h1.1
  refine ⟨(reachFrom_on ha hl hb hb n _ h2).1, fun b' hb' hne j => ?_, fun j => ?_⟩
  · rw [(reachFrom_on ha hl hb hb' n _ h2).2.1 hne j, getD_set]
    split
    · rename_i e
      rw [on_or (h.2 _) hb hb']
      have : (b == b') = false := by rw [beq_eq_false_iff_ne]; exact hne
      rw [this, ← e.1]; simp
    · rfl
  · rw [(reachFrom_on ha hl hb hb n _ h2).2.2 j]
    unfold rch
    congr 1
    funext j
    rw [getD_set]
    by_cases e : n = j
    · rw [if_pos ⟨e, by rw [h.1]; omega⟩, on_or (h.2 _) hb hb]
      subst e
      simp
    · rw [if_neg (fun h => e h.1), h0 j]
      symm
      rw [beq_eq_false_iff_ne]
      omega

/-! ## lists -/
theorem range_filter {Q : Nat → Bool} {n : Nat} (hn : n ≤ 500) (hQ : ∀ i, Q i = true → 1 ≤ i ∧ i ≤ n) : (List.range 501).filter Q = (List.range' 1 n).filter Q := by
  have e : List.range 501 = 0 :: (List.range' 1 n ++ List.range' (n + 1) (500 - n)) := by
    have e0 : 501 = 1 + (n + (500 - n)) := by omega
    have e1 : List.range' (n + 1) (500 - n) = List.range' (1 + 1 * n) (500 - n) := by congr 1; omega
    rw [List.range_eq_range', e0, ← List.range'_append (s := 0) (m := 1) (n := n + (500 - n)), e1, List.range'_append (s := 1) (m := n) (step := 1)]
    rfl
  rw [e, List.filter_cons, if_neg (fun h => by have := hQ 0 h; omega), List.filter_append]
  have : (List.range' (n + 1) (500 - n)).filter Q = [] := by
    rw [List.filter_eq_nil_iff]
    intro i hi h
    have := hQ i h
    rw [List.mem_range'_1] at hi
    omega
  rw [this, List.append_nil]
/-- What n reaches, rising. -/
def RL (l : List Cm) (n : Nat) : List Int := ((List.range' 1 n).filter (rch l n)).map Int.ofNat
theorem reachesFrom_eq {l : List Cm} (ha : Ahead l) : ∀ (k : Nat) (o out : List Int), reachesFrom l k o out = ((List.range' 1 k).filter (sw l k fun j => o.contains (j : Int))).map Int.ofNat ++ out
  | 0, o, out => by simp [reachesFrom]
  | k + 1, o, out => by
    have hr : List.range' 1 (k + 1) = List.range' 1 k ++ [k + 1] := by
      rw [List.range'_concat]; congr 2; omega
    have hself : sw l (k + 1) (fun j => o.contains (j : Int)) (k + 1) = o.contains ((k + 1 : Nat) : Int) := by
      simp only [sw]
      rw [sw_above ha (by omega)]
      have : (par l (k + 1)).contains ((k + 1 : Nat) : Int) = false := by
        cases hc : (par l (k + 1)).contains ((k + 1 : Nat) : Int) with
        | false => rfl
        | true => have := ha _ _ (List.contains_iff_mem.1 hc); omega
      rw [this]; simp
    simp only [reachesFrom]
    rw [hr, List.filter_append, List.map_append]
    cases hc : o.contains ((k + 1 : Nat) : Int) with
    | true =>
      have h2 : (sw l k fun j => (o ++ (l.getD k ([], 0)).1).contains (j : Int)) = sw l (k + 1) (fun j => o.contains (j : Int)) := by
        funext j
        simp only [sw]
        congr 1
        funext j
        rw [hc]
        simp [par]
      rw [if_pos rfl, reachesFrom_eq ha k, h2]
      simp only [List.filter_cons, List.filter_nil, hself, hc, if_true]
      simp
    | false =>
      have h2 : (sw l k fun j => o.contains (j : Int)) = sw l (k + 1) (fun j => o.contains (j : Int)) := by
        funext j
        simp only [sw]
        congr 1
        funext j
        rw [hc]; simp
      rw [if_neg (by simp), reachesFrom_eq ha k, h2]
      simp only [List.filter_cons, List.filter_nil, hself, hc]
      simp
theorem reachesR_eq {l : List Cm} (ha : Ahead l) (n : Nat) : reachesR l n = RL l n := by
  unfold reachesR RL
  rw [Int.toNat_natCast, reachesFrom_eq ha, List.append_nil]
  congr 2
  funext j
  unfold rch
  congr 1
  funext j
  simp only [List.contains_cons, List.contains_nil, Bool.or_false]
  by_cases h : j = n
  · subst h; simp
  · rw [show (j == n) = false by rw [beq_eq_false_iff_ne]; exact h, beq_eq_false_iff_ne]; omega
theorem RL_mem {l : List Cm} (ha : Ahead l) {n : Nat} (hn : 1 ≤ n) (x : Int) : x ∈ RL l n ↔ 1 ≤ x ∧ rch l n x.toNat = true := by
  unfold RL
  rw [List.mem_map]
  constructor
  · rintro ⟨i, hi, rfl⟩
    rw [List.mem_filter, List.mem_range'_1] at hi
    exact ⟨by simp only [Int.ofNat_eq_natCast]; omega, hi.2⟩
  · rintro ⟨h1, h2⟩
    have := rch_bnd ha hn h2
    exact ⟨x.toNat, by rw [List.mem_filter, List.mem_range'_1]; exact ⟨by omega, h2⟩, by simp only [Int.ofNat_eq_natCast]; omega⟩
theorem RL_contains {l : List Cm} (ha : Ahead l) {n : Nat} (hn : 1 ≤ n) (x : Int) : (RL l n).contains x = (decide (1 ≤ x) && rch l n x.toNat) := by
  rw [Bool.eq_iff_iff, List.contains_iff_mem, RL_mem ha hn]; simp
end Go.Proofs.Ytkdinelcmanfcaa
