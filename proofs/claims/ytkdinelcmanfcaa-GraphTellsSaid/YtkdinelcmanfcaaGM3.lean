/-
  Chapter 12 (graph): the plain law: order, bases, first parents.
-/
import Derived.Test.YtkdinelcmanfcaaGM2
set_option linter.unusedSimpArgs false
set_option linter.unusedVariables false
namespace Go.Proofs.Ytkdinelcmanfcaa
open Go Go.Ev

def stampOf (l : List Cm) (n : Int) : Int := (l.getD (n - 1).toNat ([], 0)).2
theorem par_stamp {l : List Cm} (hr : right l = true) {i : Nat} {p : Int} (h : p ∈ par l i) : stampOf l p < stampOf l i := by
  have ha := right_ahead hr i p h
  have hf := right_fault hr (j := i - 1) (by omega)
  have := (fault_zero hf).2.2.2.2 p h
  unfold stampOf
  rw [show ((i : Int) - 1).toNat = i - 1 by omega]
  refine Int.lt_of_le_of_lt (Int.le_of_eq ?_) this
  rw [List.getD_eq_getElem?_getD, List.getD_eq_getElem?_getD, List.getElem?_take, if_pos (by omega)]
theorem maxP_ge (out : List Int) : ∀ (ps : List Int) (g : Int), g ≤ maxP out ps g ∧ ∀ p ∈ ps, out.getD (p - 1).toNat 0 ≤ maxP out ps g
  | [], g => ⟨Int.le_refl _, by simp⟩
  | p :: ps, g => by
    simp only [maxP]
    have ih := maxP_ge out ps (if g < out.getD (p - 1).toNat 0 then out.getD (p - 1).toNat 0 else g)
    refine ⟨?_, fun q hq => ?_⟩
    · have := ih.1
      split at this <;> omega
    · simp only [List.mem_cons] at hq
      rcases hq with rfl | hq
      · have := ih.1
        split at this <;> omega
      · exact ih.2 q hq
theorem gensR_at {l : List Cm} {j : Nat} (hj : j < l.length) : (gensR l []).getD j 0 = maxP (gensR (l.take j) []) (l.getD j ([], 0)).1 0 + 1 := by
  have e : l = l.take j ++ (l.getD j ([], 0) :: l.drop (j + 1)) := by
    rw [List.getD_eq_getElem?_getD, List.getElem?_eq_getElem hj, Option.getD_some, ← List.drop_eq_getElem_cons hj, List.take_append_drop]
  conv => lhs; rw [e, gensR_app, gensR]
  have hlen : (gensR (l.take j) []).length = j := by rw [gensR_len, List.length_take]; simp; omega
  rw [gensR_keep _ _ _ (by simp [hlen])]
  rw [List.getD_eq_getElem?_getD, List.getElem?_append_right (by omega), hlen]
  simp
theorem gensR_pre {l : List Cm} {j k : Nat} (hjk : j < k) (hk : k ≤ l.length) : (gensR (l.take k) []).getD j 0 = (gensR l []).getD j 0 := by
  conv => rhs; rw [← List.take_append_drop k l, gensR_app]
  rw [gensR_keep (l.drop k) (gensR (l.take k) []) j (by rw [gensR_len, List.length_take]; simp; omega)]
theorem par_gen {l : List Cm} (hr : right l = true) {i : Nat} {p : Int} (h : p ∈ par l i) : (gensR l []).getD (p - 1).toNat 0 < (gensR l []).getD (i - 1) 0 := by
  have ha := right_ahead hr i p h
  rw [gensR_at (j := i - 1) (by omega)]
  have := (maxP_ge (gensR (l.take (i - 1)) []) (par l i) 0).2 p h
  rw [gensR_pre (by omega) (by omega)] at this
  unfold par at this
  omega
/-- Who is reached, and is another one, is earlier in every way. -/
theorem rt_order {l : List Cm} (hr : right l = true) {n j : Nat} (h : Rt l n j) : j = n ∨ (j < n ∧ stampOf l j < stampOf l n ∧ (gensR l []).getD (j - 1) 0 < (gensR l []).getD (n - 1) 0) := by
  induction h with
  | refl => exact .inl rfl
  | step h1 h2 ih =>
    rename_i i j
    have h3 := right_ahead hr _ _ h2
    have h4 := par_stamp hr h2
    have h5 := par_gen hr h2
    rw [show ((j : Int) - 1).toNat = j - 1 by omega] at h5
    rcases ih with rfl | ⟨g1, g2, g3⟩
    · exact .inr ⟨by omega, h4, h5⟩
    · exact .inr ⟨by omega, by omega, by omega⟩
theorem before_iff {l : List Cm} {a b : Int} (h : hasG l [a] = true) (h' : hasG l [b] = true) : beforeG l a b = true ↔ Rt l b.toNat a.toNat := by
  rw [beforeG_eq h h', rch_iff (right_ahead (has_one h).1) (by have := (has_one h').2; omega)]
theorem before_order {l : List Cm} {a b : Int} (h : hasG l [a] = true) (h' : hasG l [b] = true) (hb : beforeG l a b = true) (hne : a ≠ b) : a < b ∧ stampOf l a < stampOf l b ∧ genG l a < genG l b := by
  obtain ⟨hr, h1, h2⟩ := has_one h
  obtain ⟨_, h3, h4⟩ := has_one h'
  have := rt_order hr ((before_iff h h').1 hb)
  rw [gen_eq h, gen_eq h']
  rcases this with e | ⟨g1, g2, g3⟩
  · omega
  · rw [← natOf h1, ← natOf h3] at g2
    rw [show a.toNat - 1 = (a - 1).toNat by omega, show b.toNat - 1 = (b - 1).toNat by omega] at g3
    exact ⟨by omega, g2, g3⟩
theorem before_refl {l : List Cm} {a : Int} (h : hasG l [a] = true) : beforeG l a a = true := (before_iff h h).2 .refl
theorem before_trans {l : List Cm} {a b c : Int} (h : hasG l [a] = true) (h' : hasG l [b] = true) (h'' : hasG l [c] = true) (h1 : beforeG l a b = true) (h2 : beforeG l b c = true) : beforeG l a c = true :=
  (before_iff h h'').2 (((before_iff h' h'').1 h2).trans ((before_iff h h').1 h1))
theorem before_anti {l : List Cm} {a b : Int} (h : hasG l [a] = true) (h' : hasG l [b] = true) (h1 : beforeG l a b = true) (hne : a ≠ b) : beforeG l b a = false := by
  cases h2 : beforeG l b a with
  | false => rfl
  | true =>
    have := (before_order h h' h1 hne).1
    have := (before_order h' h h2 (Ne.symm hne)).1
    omega

/-! ## Bases -/
theorem bases_comm (l : List Cm) (a b : Int) : basesG l a b = basesG l b a := by
  cases h : hasG l [a] with
  | false => simp [basesG, has_pair, h]
  | true =>
    cases h' : hasG l [b] with
    | false => simp [basesG, has_pair, h']
    | true =>
      rw [basesG_eq h h', basesG_eq h' h]
      have e : com l a.toNat b.toNat = com l b.toNat a.toNat := by funext j; exact Bool.and_comm _ _
      rw [e, Nat.min_comm]
theorem bases_mem {l : List Cm} {a b : Int} (h : hasG l [a] = true) (h' : hasG l [b] = true) {x : Int} : x ∈ basesG l a b ↔ hasG l [x] = true ∧ beforeG l x a = true ∧ beforeG l x b = true ∧ ∀ y, hasG l [y] = true → beforeG l y a = true → beforeG l y b = true → beforeG l x y = true → y = x := by
  obtain ⟨hr, h1, h2⟩ := has_one h
  obtain ⟨_, h3, h4⟩ := has_one h'
  have ha := right_ahead hr
  rw [basesG_eq h h', List.mem_map]
  constructor
  · rintro ⟨i, hi, rfl⟩
    rw [List.mem_filter, top_iff ha (by omega) (by omega), List.mem_range'_1] at hi
    obtain ⟨hi0, hi1, hi2⟩ := hi
    have hx : hasG l [Int.ofNat i] = true := has_mk hr (by simp only [Int.ofNat_eq_natCast]; omega) (by simp only [Int.ofNat_eq_natCast]; omega)
    simp only [com, Bool.and_eq_true] at hi1
    refine ⟨hx, by rw [beforeG_eq hx h]; exact hi1.1, by rw [beforeG_eq hx h']; exact hi1.2, fun y hy q1 q2 q3 => ?_⟩
    have hy1 := (has_one hy).2
    rw [beforeG_eq hy h] at q1
    rw [beforeG_eq hy h'] at q2
    rw [beforeG_eq hx hy] at q3
    have := hi2 y.toNat (by simp only [com, Bool.and_eq_true]; exact ⟨q1, q2⟩) q3
    simp only [Int.ofNat_eq_natCast]
    omega
  · rintro ⟨hx, q1, q2, q3⟩
    have hx1 := (has_one hx).2
    rw [beforeG_eq hx h] at q1
    rw [beforeG_eq hx h'] at q2
    have hc : com l a.toNat b.toNat x.toNat = true := by simp only [com, Bool.and_eq_true]; exact ⟨q1, q2⟩
    have hle := com_le ha (by omega) (by omega) hc
    refine ⟨x.toNat, ?_, by simp only [Int.ofNat_eq_natCast]; omega⟩
    rw [List.mem_filter, top_iff ha (by omega) (by omega), List.mem_range'_1]
    refine ⟨by omega, hc, fun i hi hix => ?_⟩
    have hi1 := com_le ha (by omega) (by omega) hi
    have hy : hasG l [(i : Int)] = true := has_mk hr (by omega) (by omega)
    simp only [com, Bool.and_eq_true] at hi
    have := q3 i hy (by rw [beforeG_eq hy h]; simpa using hi.1) (by rw [beforeG_eq hy h']; simpa using hi.2) (by rw [beforeG_eq hx hy]; simpa using hix)
    omega
theorem bases_nodup {l : List Cm} {a b : Int} (h : hasG l [a] = true) (h' : hasG l [b] = true) : (basesG l a b).Pairwise (· < ·) := by
  rw [basesG_eq h h', List.pairwise_map]
  refine List.Pairwise.imp (fun h => ?_) ((List.pairwise_lt_range' (s := 1) (n := min a.toNat b.toNat) (step := 1)).filter _)
  simp only [Int.ofNat_eq_natCast]; omega
theorem bases_single {l : List Cm} {a b : Int} (h : hasG l [a] = true) (h' : hasG l [b] = true) (hb : beforeG l a b = true) : basesG l a b = [a] := by
  have hmem : ∀ x, x ∈ basesG l a b ↔ x = a := by
    intro x
    rw [bases_mem h h']
    constructor
    · rintro ⟨hx, q1, q2, q3⟩
      exact (q3 a h (before_refl h) hb q1).symm
    · rintro rfl
      refine ⟨h, before_refl h, hb, fun y hy q1 q2 q3 => ?_⟩
      by_cases e : y = x
      · exact e
      · have := before_anti hy h q1 e
        rw [q3] at this; cases this
  have hp := bases_nodup h h'
  match hl : basesG l a b with
  | [] => have := (hmem a).2 rfl; rw [hl] at this; simp at this
  | [x] => rw [(hmem x).1 (by rw [hl]; simp)]
  | x :: y :: r =>
    have e1 := (hmem x).1 (by rw [hl]; simp)
    have e2 := (hmem y).1 (by rw [hl]; simp)
    rw [hl] at hp
    have := (List.pairwise_cons.1 hp).1 y (by simp)
    omega
/-- Whatever both reach, a base reaches. -/
theorem bases_above {l : List Cm} {a b : Int} (h : hasG l [a] = true) (h' : hasG l [b] = true) : ∀ (k : Nat) (c : Int), (a - c).toNat ≤ k → hasG l [c] = true → beforeG l c a = true → beforeG l c b = true → ∃ x ∈ basesG l a b, beforeG l c x = true
  | 0, c, hk, hc, q1, q2 => by
    have hle : c ≤ a := by
      by_cases e : c = a
      · omega
      · exact Int.le_of_lt (before_order hc h q1 e).1
    have e : c = a := by omega
    subst e
    exact ⟨c, by rw [bases_single hc h' q2]; simp, before_refl hc⟩
  | k + 1, c, hk, hc, q1, q2 => by
    by_cases hm : c ∈ basesG l a b
    · exact ⟨c, hm, before_refl hc⟩
    · rw [bases_mem h h'] at hm
      have : ∃ y, hasG l [y] = true ∧ beforeG l y a = true ∧ beforeG l y b = true ∧ beforeG l c y = true ∧ y ≠ c := by
        refine Classical.byContradiction fun hno => hm ⟨hc, q1, q2, fun y g1 g2 g3 g4 => ?_⟩
        exact Classical.byContradiction fun hne => hno ⟨y, g1, g2, g3, g4, hne⟩
      obtain ⟨y, g1, g2, g3, g4, g5⟩ := this
      have hlt := (before_order hc g1 g4 (Ne.symm g5)).1
      have hle : y ≤ a := by
        by_cases e : y = a
        · omega
        · exact Int.le_of_lt (before_order g1 h g2 e).1
      obtain ⟨x, hx, hyx⟩ := bases_above h h' k y (by omega) g1 g2 g3
      exact ⟨x, hx, before_trans hc g1 ((bases_mem h h').1 hx).1 g4 hyx⟩

/-! ## First -/
/-- Each is the first parent of the one ahead. -/
def Chain (l : List Cm) : List Int → Prop
  | x :: y :: r => y ∈ par l x.toNat ∧ Chain l (y :: r)
  | _ => True
theorem chain_from {l : List Cm} (hr : right l = true) : ∀ (k : Nat) (n : Int) (ps : List Int), 1 ≤ n → (l.getD (n - 1).toNat ([], 0)).1 = ps → Chain l (n :: firstFrom l k ps)
  | 0, _, _, _, _ => trivial
  | k + 1, n, [], _, _ => trivial
  | k + 1, n, p :: ps, hn, h => by
    simp only [firstFrom]
    have hp : p ∈ par l n.toNat := by unfold par; rw [show n.toNat - 1 = (n - 1).toNat by omega, h]; simp
    have := right_ahead hr _ _ hp
    exact ⟨hp, chain_from hr k p _ this.1 rfl⟩
theorem first_chain {l : List Cm} {n : Int} (h : hasG l [n] = true) : Chain l (firstG l n) := by
  unfold firstG
  rw [if_pos h]
  exact chain_from (has_one h).1 _ n _ (has_one h).2.1 rfl
theorem chain_at {l : List Cm} : ∀ {r : List Int} {i : Nat} {x y : Int}, Chain l r → r[i]? = some x → r[i + 1]? = some y → y ∈ par l x.toNat
  | [], i, x, y, _, h, _ => by simp at h
  | [z], i, x, y, _, _, h => by simp at h
  | z :: w :: r, i, x, y, hc, h1, h2 => by
    cases i with
    | zero =>
      simp only [List.getElem?_cons_zero, Option.some.injEq, List.getElem?_cons_succ] at h1 h2
      subst h1; subst h2
      exact hc.1
    | succ i => exact chain_at (r := w :: r) hc.2 h1 h2
theorem first_step {l : List Cm} {n : Int} (h : hasG l [n] = true) {i : Nat} {x y : Int} (h1 : (firstG l n)[i]? = some x) (h2 : (firstG l n)[i + 1]? = some y) :
    hasG l [x] = true ∧ hasG l [y] = true ∧ y < x ∧ stampOf l y < stampOf l x ∧ beforeG l y x = true := by
  obtain ⟨hr, hx1, hx2⟩ := first_mem (List.mem_of_getElem? h1)
  obtain ⟨_, hy1, hy2⟩ := first_mem (List.mem_of_getElem? h2)
  have hp := chain_at (first_chain h) h1 h2
  have hx := has_mk hr hx1 hx2
  have hy := has_mk hr hy1 hy2
  have hb : beforeG l y x = true := (before_iff hy hx).2 (.step .refl (by rw [← natOf hy1]; exact hp))
  have hlt := right_ahead hr _ _ hp
  have o := before_order hy hx hb (by omega)
  exact ⟨hx, hy, o.1, o.2.1, hb⟩
theorem first_head {l : List Cm} {n : Int} (h : hasG l [n] = true) : ∃ r, firstG l n = n :: r := by
  unfold firstG
  rw [if_pos h]
  exact ⟨_, rfl⟩
theorem asOf_self {l : List Cm} {n : Int} (h : hasG l [n] = true) : asOfG l n (stampOf l n) = n := by
  obtain ⟨r, hr⟩ := first_head h
  unfold asOfG
  rw [hr, asOfIn, if_pos (show (l.getD (n - 1).toNat ([], 0)).2 ≤ stampOf l n from Int.le_refl _)]
theorem asOfIn_cons (l : List Cm) (t x : Int) (r : List Int) : asOfIn l t (x :: r) = if (l.getD (x - 1).toNat ([], 0)).2 ≤ t then x else asOfIn l t r := rfl
theorem asOfIn_mono {l : List Cm} (hr : right l = true) {t u : Int} (htu : t ≤ u) : ∀ {r : List Int}, Chain l r → (∀ x ∈ r, 1 ≤ x) → asOfIn l t r ≤ asOfIn l u r ∧ 0 ≤ asOfIn l t r ∧ ∀ x, r.head? = some x → asOfIn l t r ≤ x
  | [], _, _ => by simp [asOfIn]
  | [x], _, h1 => by
    have := h1 x (by simp)
    simp only [asOfIn]
    refine ⟨?_, ?_, fun y hy => ?_⟩
    · split <;> split <;> omega
    · split <;> omega
    · simp at hy; subst hy; split <;> omega
  | x :: y :: r, hc, h1 => by
    have ih := asOfIn_mono hr htu hc.2 (fun z hz => h1 z (by simp [hz]))
    have hlt := right_ahead hr _ _ hc.1
    have hx := h1 x (by simp)
    have hy := ih.2.2 y rfl
    rw [asOfIn_cons l t x (y :: r), asOfIn_cons l u x (y :: r)]
    refine ⟨?_, ?_, fun z hz => ?_⟩
    · split
      · rw [if_pos (by omega)]; omega
      · split
        · omega
        · exact ih.1
    · split
      · omega
      · exact ih.2.1
    · simp only [List.head?_cons, Option.some.injEq] at hz
      subst hz
      split <;> omega
theorem asOf_mono {l : List Cm} {n t u : Int} (h : hasG l [n] = true) (htu : t ≤ u) : asOfG l n t ≤ asOfG l n u := by
  unfold asOfG
  exact (asOfIn_mono (has_one h).1 htu (first_chain h) (fun x hx => (first_mem hx).2.1)).1
theorem filter_count {α : Type} (p q : α → Bool) (hq : ∀ x, q x = true → p x = true) : ∀ (r : List α), (r.filter fun x => p x && !q x).length + (r.filter q).length = (r.filter p).length
  | [] => rfl
  | x :: r => by
    have ih := filter_count p q hq r
    simp only [List.filter_cons]
    cases hp : p x <;> cases hqx : q x
    · simpa using ih
    · have := hq x hqx; rw [hp] at this; cases this
    · simp; omega
    · simp; omega
theorem since_count {l : List Cm} {a n : Int} (h : hasG l [a] = true) (h' : hasG l [n] = true) (hb : beforeG l a n = true) : (sinceG l a n).length + (reachL l a).length = (reachL l n).length := by
  obtain ⟨hr, h1, h2⟩ := has_one h
  obtain ⟨_, h3, h4⟩ := has_one h'
  have ha := right_ahead hr
  have hl := right_len hr
  rw [sinceG_eq h h', reachL_eq h, reachL_eq h']
  unfold RL
  rw [List.length_map, List.length_map, List.length_map]
  have hsub : ∀ j, rch l a.toNat j = true → rch l n.toNat j = true := by
    intro j hj
    rw [rch_iff ha (by omega)] at hj ⊢
    exact ((before_iff h h').1 hb).trans hj
  have e : (List.range' 1 a.toNat).filter (rch l a.toNat) = (List.range' 1 n.toNat).filter (rch l a.toNat) := by
    rw [← range_filter (Q := rch l a.toNat) (n := a.toNat) (by omega) (fun i hi => rch_bnd ha (by omega) hi),
      ← range_filter (Q := rch l a.toNat) (n := n.toNat) (by omega) (fun i hi => rch_bnd ha (by omega) (hsub i hi))]
  rw [e]
  exact filter_count _ _ hsub _
theorem since_mem {l : List Cm} {a n x : Int} (h : hasG l [a] = true) (h' : hasG l [n] = true) (hx : x ∈ sinceG l a n) : beforeG l x n = true ∧ beforeG l x a = false := by
  obtain ⟨hr, h1, h2⟩ := has_one h
  obtain ⟨_, h3, h4⟩ := has_one h'
  rw [sinceG_eq h h', List.mem_map] at hx
  obtain ⟨i, hi, rfl⟩ := hx
  rw [List.mem_filter, List.mem_range'_1] at hi
  have hx : hasG l [Int.ofNat i] = true := has_mk hr (by simp only [Int.ofNat_eq_natCast]; omega) (by simp only [Int.ofNat_eq_natCast]; omega)
  rw [beforeG_eq hx h', beforeG_eq hx h]
  simpa using hi.2
end Go.Proofs.Ytkdinelcmanfcaa
