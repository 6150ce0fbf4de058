/-
  Chapter 02 (span): the program's ways and the reference's come to the same: plain Lean.
-/
import Derived.Test.YtedniogmjhhhmaaDoorSM1
set_option linter.all false
set_option linter.unusedSimpArgs false
set_option linter.unusedVariables false
namespace Go.Proofs.YtedniogmjhhhmaaDoor
open Go Go.Ev

theorem checkV_k {v : Val} (h : checkV v = 0) : v.k ≠ 0 := by
  intro hk
  simp [checkV, hk] at h
theorem okFrom_okN : ∀ {l : List Row} {p : Option Row}, okFrom p l = true → okN p l
  | [], _, _ => trivial
  | x :: r, p, h => by
    simp only [okFrom, Bool.and_eq_true, decide_eq_true_eq] at h
    obtain ⟨⟨⟨h1, h2⟩, h3⟩, h4⟩ := h
    simp only [isSpan, Bool.and_eq_true, decide_eq_true_eq] at h1
    refine ⟨h1.1.2, checkV_k h2, fun w hw => ?_, okFrom_okN h4⟩
    subst hw
    simp only [Bool.not_eq_true', Bool.or_eq_false_iff, decide_eq_false_iff_not, Bool.and_eq_false_iff] at h3
    refine ⟨by omega, fun hc => ?_⟩
    rcases h3.2 with h | h
    · exact h hc.1.symm
    · exact h hc.2.symm
theorem right_okN {l : List Row} (h : right l = true) : okN none l := by
  simp only [right, Bool.and_eq_true] at h
  exact okFrom_okN h.2

/-- The search finds what is had. -/
theorem atR_had {l : List Row} (h : okN none l) (t : Int) : atR l t = hadF l t := by
  have hs : ∀ i j, i ≤ j → j < l.length → (l.getD i default).b ≤ (l.getD j default).b := by
    have : ∀ (l : List Row) (q : Option Row), okN q l → ∀ i j, i ≤ j → j < l.length → (l.getD i default).b ≤ (l.getD j default).b := by
      intro l
      induction l with
      | nil => intro q _ i j _ hj; simp at hj
      | cons x r ih =>
        intro q hq i j hij hj
        cases j with
        | zero => obtain rfl : i = 0 := by omega
                  exact Int.le_refl _
        | succ j =>
          cases i with
          | zero =>
            have hj' : j < r.length := by simpa using hj
            have e : ((x :: r).getD (j + 1) default) = r[j] := by simp [List.getD_eq_getElem?_getD, hj']
            rw [e]
            have h1 := okN_from (okN_tail hq) r[j] (List.getElem_mem hj')
            have h2 := (okN_mem (okN_tail hq) r[j] (List.getElem_mem hj')).1
            show x.b ≤ _
            omega
          | succ i =>
            have := ih (some x) (okN_tail hq) i j (by omega) (by simpa using hj)
            simpa using this
    exact this l none h
  obtain ⟨h1, h2⟩ := bs_find l t hs l.length 0 l.length (Nat.zero_le _) (Nat.le_refl _) (by omega) (fun i hi => by omega) (fun i h1 h2 => by omega)
  have hle := (bs_le l t l.length 0 l.length (Nat.zero_le _) (Nat.le_refl _)).2
  have hb : bs l t l.length 0 l.length = bsF l t := rfl
  rw [hb] at h1 h2 hle
  have hsplit : hadF l t = hadF (l.drop (bsF l t)) t := by
    conv => lhs; rw [← List.take_append_drop (bsF l t) l]
    refine had_app_none fun y hy hc => ?_
    obtain ⟨j, hj, rfl⟩ := List.getElem_of_mem hy
    have hj2 : j < bsF l t := by rw [List.length_take] at hj; omega
    have hj3 : j < l.length := by omega
    have := h1 j hj2
    rw [getD_at hj3] at this
    have h5 := hc.2
    rw [List.getElem_take] at h5
    omega
  rw [hsplit]
  unfold atR
  by_cases hi : bsF l t < l.length
  · rw [dif_pos hi, List.drop_eq_getElem_cons hi, had_cons]
    have h3 := h2 (bsF l t) (Nat.le_refl _) hi
    rw [getD_at hi] at h3
    by_cases ha : l[bsF l t].a ≤ t
    · rw [if_pos ha, if_pos ⟨ha, h3⟩]
    · rw [if_neg ha, if_neg (fun hc => ha hc.1), had_none]
      intro y hy hc
      have hm : y ∈ l.drop (bsF l t) := by rw [List.drop_eq_getElem_cons hi]; exact List.mem_cons_of_mem _ hy
      have hok : ∀ (k : Nat) (l : List Row) (q : Option Row), okN q l → (hk : k < l.length) → ∀ y ∈ l.drop (k + 1), l[k].b ≤ y.a := by
        intro k
        induction k with
        | zero =>
          intro l q hq hk y hy
          cases l with
          | nil => simp at hk
          | cons x r => exact okN_from (okN_tail hq) y (by simpa using hy)
        | succ k ih =>
          intro l q hq hk y hy
          cases l with
          | nil => simp at hk
          | cons x r => exact ih r (some x) (okN_tail hq) (by simpa using hk) y (by simpa using hy)
      have h4 := hok _ l none h hi y hy
      have h5 := hc.1
      have h6 := (okN_mem h l[bsF l t] (List.getElem_mem hi)).1
      omega
  · rw [dif_neg hi, List.drop_of_length_le (by omega)]; rfl

/-! ## times -/
def SS (l : List Int) : Prop := l.Pairwise (· < ·)
theorem SS_ext : ∀ {l m : List Int}, SS l → SS m → (∀ x, x ∈ l ↔ x ∈ m) → l = m
  | [], [], _, _, _ => rfl
  | [], y :: s, _, _, h => absurd ((h y).2 (by simp)) (by simp)
  | x :: r, [], _, _, h => absurd ((h x).1 (by simp)) (by simp)
  | x :: r, y :: s, hl, hm, h => by
    obtain ⟨l1, l2⟩ := List.pairwise_cons.1 hl
    obtain ⟨m1, m2⟩ := List.pairwise_cons.1 hm
    have hxy : x = y := by
      have h1 := (h x).1 (by simp)
      have h2 := (h y).2 (by simp)
      rcases List.mem_cons.1 h1 with h1 | h1
      · exact h1
      · rcases List.mem_cons.1 h2 with h2 | h2
        · exact h2.symm
        · have := m1 x h1; have := l1 y h2; omega
    subst hxy
    congr 1
    refine SS_ext l2 m2 fun z => ⟨fun hz => ?_, fun hz => ?_⟩
    · rcases List.mem_cons.1 ((h z).1 (by simp [hz])) with e | e
      · have := l1 z hz; omega
      · exact e
    · rcases List.mem_cons.1 ((h z).2 (by simp [hz])) with e | e
      · have := m1 z hz; omega
      · exact e
theorem insG_true : ∀ (l : List Int) (n : Int), insG l n true = l.filter (fun x => decide (x ≠ n))
  | [], n => by simp [insG]
  | x :: r, n => by
    simp only [insG, Bool.true_eq_false, false_and, if_false, insG_true r n, List.filter_cons]
    by_cases h : x = n <;> simp [h]
theorem insG_SS : ∀ {l : List Int} (n : Int), SS l → SS (insG l n false) ∧ ∀ x, x ∈ insG l n false ↔ x = n ∨ x ∈ l
  | [], n, _ => ⟨by simp [insG, SS], by simp [insG]⟩
  | y :: r, n, h => by
    obtain ⟨h1, h2⟩ := List.pairwise_cons.1 h
    have hf : SS (r.filter fun x => decide (x ≠ n)) := List.Pairwise.filter _ h2
    obtain ⟨i1, i2⟩ := insG_SS n h2
    simp only [insG, true_and]
    by_cases hn : n ≤ y
    · rw [if_pos hn]
      by_cases hy : y = n
      · subst hy
        simp only [ne_eq, not_true_eq_false, if_false, insG_true]
        refine ⟨List.pairwise_cons.2 ⟨fun z hz => h1 z (List.mem_filter.1 hz).1, hf⟩, fun x => ?_⟩
        simp only [List.mem_cons, List.mem_filter, decide_eq_true_eq]
        constructor
        · rintro (h | h); exact .inl h; exact .inr (.inr h.1)
        · rintro (h | h | h)
          · exact .inl h
          · exact .inl h
          · by_cases e : x = y; exact .inl e; exact .inr ⟨h, e⟩
      · simp only [ne_eq, hy, not_false_eq_true, if_true, insG_true]
        refine ⟨List.pairwise_cons.2 ⟨fun z hz => ?_, List.pairwise_cons.2 ⟨fun z hz => h1 z (List.mem_filter.1 hz).1, hf⟩⟩, fun x => ?_⟩
        · rcases List.mem_cons.1 hz with rfl | hz
          · omega
          · have := h1 z (List.mem_filter.1 hz).1; omega
        · simp only [List.mem_cons, List.mem_filter, decide_eq_true_eq]
          constructor
          · rintro (h | h | h); exact .inl h; exact .inr (.inl h); exact .inr (.inr h.1)
          · rintro (h | h | h)
            · exact .inl h
            · exact .inr (.inl h)
            · by_cases e : x = n; exact .inl e; exact .inr (.inr ⟨h, e⟩)
    · rw [if_neg hn, if_pos (by omega)]
      refine ⟨List.pairwise_cons.2 ⟨fun z hz => ?_, i1⟩, fun x => ?_⟩
      · rcases (i2 z).1 hz with rfl | hz
        · omega
        · exact h1 z hz
      · simp only [List.mem_cons, i2]
        constructor
        · rintro (h | h | h); exact .inr (.inl h); exact .inl h; exact .inr (.inr h)
        · rintro (h | h | h); exact .inr (.inl h); exact .inl h; exact .inr (.inr h)
theorem bndR_SS : ∀ {l : List Row} {m : List Int}, SS m → SS (bndR m l) ∧ ∀ x, x ∈ bndR m l ↔ x ∈ m ∨ x ∈ timesOf l
  | [], m, h => ⟨h, fun x => by simp [bndR, timesOf]⟩
  | y :: r, m, h => by
    obtain ⟨a1, a2⟩ := insG_SS y.a h
    obtain ⟨b1, b2⟩ := insG_SS y.b a1
    obtain ⟨c1, c2⟩ := bndR_SS (l := r) b1
    refine ⟨c1, fun x => ?_⟩
    rw [bndR, c2, b2, a2, timesOf_cons]
    simp only [List.mem_cons]
    constructor
    · rintro ((h | h | h) | h)
      · exact .inr (.inr (.inl h))
      · exact .inr (.inl h)
      · exact .inl h
      · exact .inr (.inr (.inr h))
    · rintro (h | h | h | h)
      · exact .inl (.inr (.inr h))
      · exact .inl (.inr (.inl h))
      · exact .inl (.inl h)
      · exact .inr h
theorem compact_SS {zs : List Int} (hs : zs.Pairwise (· ≤ ·)) : SS (Lib.compact zs) ∧ ∀ x, x ∈ Lib.compact zs ↔ x ∈ zs := by
  have key : ∀ m, m ≤ zs.length → SS (Lib.compactUpTo zs.toArray m) ∧ (∀ x, x ∈ Lib.compactUpTo zs.toArray m ↔ x ∈ zs.take m) := by
    intro m
    induction m with
    | zero => intro _; exact ⟨by simp [Lib.compactUpTo, SS], by simp [Lib.compactUpTo]⟩
    | succ m ih =>
      intro hm
      obtain ⟨i1, i2⟩ := ih (by omega)
      have hlt : m < zs.length := by omega
      have hle : ∀ x ∈ zs.take m, x ≤ zs[m] := by
        intro x hx
        obtain ⟨j, hj, rfl⟩ := List.getElem_of_mem hx
        have hj2 : j < m := by rw [List.length_take] at hj; omega
        rw [List.getElem_take]
        exact List.pairwise_iff_getElem.1 hs j m (by omega) hlt hj2
      have hge : zs.toArray[m]! = zs[m] := by simp [hlt]
      have htk : zs.take (m + 1) = zs.take m ++ [zs[m]] := by rw [List.take_succ, List.getElem?_eq_getElem hlt]; rfl
      rw [Lib.compactUpTo_succ, htk]
      by_cases hk : Lib.keeps zs.toArray m = true
      · rw [if_pos hk, hge]
        refine ⟨List.pairwise_append.2 ⟨i1, by simp, fun x hx y hy => ?_⟩, fun x => by simp only [List.mem_append, i2]⟩
        simp at hy; subst hy
        have h1 := hle x ((i2 x).1 hx)
        have h2 : x ≠ zs[m] := by
          intro e
          cases m with
          | zero => simp [Lib.compactUpTo] at hx
          | succ m =>
            have h3 : zs[m + 1] ≠ zs[m] := by
              have : m < zs.length := by omega
              simpa [Lib.keeps, hlt, this] using hk
            have h4 := (i2 x).1 hx
            obtain ⟨j, hj, rfl⟩ := List.getElem_of_mem h4
            have hj2 : j < m + 1 := by rw [List.length_take] at hj; omega
            rw [List.getElem_take] at e
            have h5 : zs[j] ≤ zs[m] := by
              rcases Nat.lt_or_ge j m with h | h
              · exact List.pairwise_iff_getElem.1 hs j m (by omega) (by omega) h
              · obtain rfl : j = m := by omega
                exact Int.le_refl _
            have h6 : zs[m] ≤ zs[m + 1] := List.pairwise_iff_getElem.1 hs m (m + 1) (by omega) hlt (by omega)
            omega
        omega
      · rw [if_neg hk, List.append_nil]
        refine ⟨i1, fun x => ?_⟩
        rw [i2, List.mem_append]
        constructor
        · exact .inl
        · rintro (h | h)
          · exact h
          · simp at h
            subst h
            cases m with
            | zero => simp [Lib.keeps] at hk
            | succ m =>
              have hm' : m < zs.length := by omega
              have h3 : zs[m + 1] = zs[m] := by simpa [Lib.keeps, hlt, hm'] using hk
              rw [h3]
              refine List.mem_iff_getElem.2 ⟨m, by rw [List.length_take]; omega, by rw [List.getElem_take]⟩
  have := key zs.length (Nat.le_refl _)
  rw [List.take_length] at this
  have e : Lib.compact zs = Lib.compactUpTo zs.toArray zs.length := rfl
  rw [e]; exact this
theorem sortI_sorted (l : List Int) : (sortI l).Pairwise (· ≤ ·) := by
  have := List.pairwise_mergeSort (le := fun x y : Int => decide (x ≤ y)) (fun a b c h1 h2 => by simp at *; omega) (fun a b => by simp; omega) l
  exact this.imp (by simp)
theorem bnds_SS (x y : List Row) : SS (bnds x y) ∧ ∀ t, t ∈ bnds x y ↔ t ∈ timesOf x ∨ t ∈ timesOf y := by
  obtain ⟨h1, h2⟩ := compact_SS (sortI_sorted (timesOf x ++ timesOf y))
  refine ⟨h1, fun t => ?_⟩
  have e : bnds x y = Lib.compact (sortI (timesOf x ++ timesOf y)) := rfl
  rw [e, h2]
  simp [sortI]
theorem bnds_eq (x y : List Row) : bnds x y = bndR (bndR [] x) y := by
  obtain ⟨h1, h2⟩ := bnds_SS x y
  obtain ⟨g1, g2⟩ := bndR_SS (l := x) (m := []) (by simp [SS])
  obtain ⟨k1, k2⟩ := bndR_SS (l := y) g1
  refine SS_ext h1 k1 fun t => ?_
  rw [h2, k2, g2]; simp
theorem bnds_one (l : List Row) (a b : Int) (v : Val) : bnds l [⟨a, b, v⟩] = bndR (insG (insG [] a false) b false) l := by
  obtain ⟨h1, h2⟩ := bnds_SS l [⟨a, b, v⟩]
  obtain ⟨a1, a2⟩ := insG_SS (l := []) a (by simp [SS])
  obtain ⟨b1, b2⟩ := insG_SS b a1
  obtain ⟨k1, k2⟩ := bndR_SS (l := l) b1
  refine SS_ext h1 k1 fun t => ?_
  rw [h2, k2, b2, a2]
  simp only [timesOf_cons]
  simp [timesOf]
  constructor
  · rintro (h | h | h); exact .inr h; exact .inl (.inr h); exact .inl (.inl h)
  · rintro ((h | h) | h); exact .inr (.inr h); exact .inr (.inl h); exact .inl h

/-! ## the reference's over -/
theorem pairsOf_mem : ∀ {l : List Int}, SS l → ∀ {p q : Int}, (p, q) ∈ pairsOf l → p < q ∧ p ∈ l ∧ q ∈ l ∧ ∀ x ∈ l, x ≤ p ∨ q ≤ x
  | [], _, p, q, h => by simp [pairsOf] at h
  | [x], _, p, q, h => by simp [pairsOf] at h
  | x :: y :: r, hs, p, q, h => by
    obtain ⟨h1, h2⟩ := List.pairwise_cons.1 hs
    simp only [pairsOf, List.mem_cons, Prod.mk.injEq] at h
    rcases h with ⟨rfl, rfl⟩ | h
    · refine ⟨h1 q (by simp), by simp, by simp, fun z hz => ?_⟩
      rcases List.mem_cons.1 hz with rfl | hz
      · omega
      · rcases List.mem_cons.1 hz with rfl | hz
        · omega
        · have := (List.pairwise_cons.1 h2).1 z hz; omega
    · obtain ⟨g1, g2, g3, g4⟩ := pairsOf_mem h2 h
      refine ⟨g1, by simp [List.mem_cons.1 g2], by simp [List.mem_cons.1 g3], fun z hz => ?_⟩
      rcases List.mem_cons.1 hz with rfl | hz
      · have := h1 p g2; omega
      · exact g4 z hz
/-- Rows out of neighbouring times: f tells each one's value. -/
theorem overH_sem (l : List Row) (a b : Int) (v : Val) : ∀ (bs : List Int) (acc : List Row), SS bs → okN none acc → (∀ c, bs.head? = some c → ∀ y ∈ acc, y.b ≤ c) →
    okN none (overH l a b v (pairsOf bs) acc) ∧ ∀ t, hadF (overH l a b v (pairsOf bs) acc) t = match (pairsOf bs).find? (fun p => decide (p.1 ≤ t ∧ t < p.2)) with | none => hadF acc t | some p => valOr (if a ≤ p.1 ∧ p.2 ≤ b then v else hadF l p.1)
  | [], acc, _, h, _ => ⟨h, fun t => rfl⟩
  | [x], acc, _, h, _ => ⟨h, fun t => rfl⟩
  | x :: y :: r, acc, hs, h, hc => by
    obtain ⟨h1, h2⟩ := List.pairwise_cons.1 hs
    have hxy := h1 y (by simp)
    have hacc := hc x rfl
    have e : addS acc ⟨x, y, if a ≤ x ∧ y ≤ b then v else hadF l x⟩ = addR acc ⟨x, y, if a ≤ x ∧ y ≤ b then v else hadF l x⟩ := addS_eq (show x < y from hxy)
    obtain ⟨g1, g2, g3, g4, g5⟩ := addR_sem (x := ⟨x, y, if a ≤ x ∧ y ≤ b then v else hadF l x⟩) h hacc
    obtain ⟨q1, q2⟩ := overH_sem l a b v (y :: r) (addR acc ⟨x, y, if a ≤ x ∧ y ≤ b then v else hadF l x⟩) h2 g1 (fun c hc z hz => by
      simp only [List.head?_cons, Option.some.injEq] at hc; subst hc; exact g4 hxy z hz)
    simp only [pairsOf, overH]
    rw [e]
    refine ⟨q1, fun t => ?_⟩
    rw [q2 t, List.find?_cons]
    by_cases ht : x ≤ t ∧ t < y
    · rw [decide_eq_true ht]
      have hn : (pairsOf (y :: r)).find? (fun p => decide (p.1 ≤ t ∧ t < p.2)) = none := by
        rw [List.find?_eq_none]
        rintro ⟨p, q⟩ hp
        obtain ⟨_, k2, _, _⟩ := pairsOf_mem h2 hp
        have : y ≤ p := by
          rcases List.mem_cons.1 k2 with rfl | k
          · exact Int.le_refl _
          · have := (List.pairwise_cons.1 h2).1 p k; omega
        simp; omega
      rw [hn]
      simp only
      rw [g2 t]
      unfold valOr
      simp only
      have hn : hadF acc t = Val.none := had_none fun z hz hc => by have := hacc z hz; have := hc.2; omega
      by_cases k : (if a ≤ x ∧ y ≤ b then v else hadF l x).k = 0
      · rw [if_neg (fun hc => hc.2.2 k), if_pos k, hn]
      · rw [if_pos ⟨ht.1, ht.2, k⟩, if_neg k]
    · rw [decide_eq_false ht]
      simp only
      split
      · rw [g2 t, if_neg (fun hc => ht ⟨hc.1, hc.2.1⟩)]
      · rfl
theorem find_pair : ∀ {bs : List Int}, SS bs → ∀ {t c d : Int}, c ∈ bs → c ≤ t → d ∈ bs → t < d → ∃ p, (pairsOf bs).find? (fun p => decide (p.1 ≤ t ∧ t < p.2)) = some p
  | [], _, t, c, d, hc, _, _, _ => by simp at hc
  | [x], _, t, c, d, hc, h1, hd, h2 => by simp at hc hd; omega
  | x :: y :: r, hs, t, c, d, hc, h1, hd, h2 => by
    obtain ⟨s1, s2⟩ := List.pairwise_cons.1 hs
    simp only [pairsOf, List.find?_cons]
    by_cases ht : x ≤ t ∧ t < y
    · rw [decide_eq_true ht]; exact ⟨_, rfl⟩
    · rw [decide_eq_false ht]
      simp only
      have hxt : x ≤ t := by
        rcases List.mem_cons.1 hc with rfl | hc
        · exact h1
        · have := s1 c hc; omega
      have hyt : y ≤ t := by
        by_cases h : y ≤ t
        · exact h
        · exact absurd ⟨hxt, by omega⟩ ht
      refine find_pair s2 (c := y) (d := d) (by simp) hyt ?_ h2
      rcases List.mem_cons.1 hd with rfl | hd
      · omega
      · exact hd
theorem had_valOr {l : List Row} (h : okN none l) (t : Int) : valOr (hadF l t) = hadF l t := by
  have : ∀ (l : List Row), (∀ y ∈ l, y.v.k ≠ 0) → hadF l t = Val.none ∨ (hadF l t).k ≠ 0 := by
    intro l
    induction l with
    | nil => intro _; exact .inl rfl
    | cons x r ih =>
      intro hk
      rw [had_cons]
      by_cases hx : holdsAt x t
      · rw [if_pos hx]; exact .inr (hk x (by simp))
      · rw [if_neg hx]; exact ih fun y hy => hk y (by simp [hy])
  unfold valOr
  rcases this l (fun y hy => (okN_mem h y hy).2) with e | e
  · rw [e]; rfl
  · rw [if_neg e]
theorem had_same {l : List Row} {p t : Int} (h : ∀ y ∈ l, (y.a ≤ p ↔ y.a ≤ t) ∧ (p < y.b ↔ t < y.b)) : hadF l p = hadF l t := by
  induction l with
  | nil => rfl
  | cons x r ih =>
    have hx := h x (by simp)
    have : holdsAt x p ↔ holdsAt x t := by unfold holdsAt; rw [hx.1, hx.2]
    rw [had_cons, had_cons, ih fun y hy => h y (by simp [hy])]
    by_cases k : holdsAt x p
    · rw [if_pos k, if_pos (this.1 k)]
    · rw [if_neg k, if_neg (fun c => k (this.2 c))]
theorem times_mem {l : List Row} {y : Row} (h : y ∈ l) : y.a ∈ timesOf l ∧ y.b ∈ timesOf l := by
  unfold timesOf
  exact ⟨List.mem_flatMap.2 ⟨y, h, by simp⟩, List.mem_flatMap.2 ⟨y, h, by simp⟩⟩
theorem over_eq {l : List Row} (h : okN none l) {a b : Int} (hab : a < b) (v : Val) : overS l a b v = overR l a b v := by
  obtain ⟨o1, o2, _⟩ := overR_sem h hab v
  obtain ⟨a1, a2⟩ := insG_SS (l := []) a (by simp [SS])
  obtain ⟨b1, b2⟩ := insG_SS b a1
  obtain ⟨k1, k2⟩ := bndR_SS (l := l) b1
  have hma : a ∈ bndR (insG (insG [] a false) b false) l := by rw [k2, b2, a2]; simp
  have hmb : b ∈ bndR (insG (insG [] a false) b false) l := by rw [k2, b2, a2]; simp
  have hml : ∀ y ∈ l, y.a ∈ bndR (insG (insG [] a false) b false) l ∧ y.b ∈ bndR (insG (insG [] a false) b false) l := fun y hy => by
    rw [k2, k2]; exact ⟨.inr (times_mem hy).1, .inr (times_mem hy).2⟩
  unfold overS
  generalize bndR (insG (insG [] a false) b false) l = bs at *
  obtain ⟨s1, s2⟩ := overH_sem l a b v bs [] k1 trivial (by simp)
  refine okN_ext s1 o1 fun t => ?_
  rw [s2 t, o2 t]
  cases hf : (pairsOf bs).find? (fun p => decide (p.1 ≤ t ∧ t < p.2)) with
  | none =>
    have nof : ∀ {c d : Int}, c ∈ bs → c ≤ t → d ∈ bs → t < d → False := fun hc h1 hd h2 => by
      obtain ⟨p, hp⟩ := find_pair k1 hc h1 hd h2
      rw [hf] at hp; cases hp
    simp only
    rw [if_neg (fun hc => nof hma hc.1 hmb hc.2), had_none (l := l)]
    · rfl
    · intro y hy hc
      exact nof (hml y hy).1 hc.1 (hml y hy).2 hc.2
  | some p =>
    obtain ⟨p, q⟩ := p
    have hin := List.find?_some hf
    simp only [decide_eq_true_eq] at hin
    obtain ⟨m1, m2, m3, m4⟩ := pairsOf_mem k1 (List.mem_of_find?_eq_some hf)
    simp only
    have ha := m4 a hma
    have hb := m4 b hmb
    by_cases g : a ≤ p ∧ q ≤ b
    · rw [if_pos g, if_pos (by omega)]
    · rw [if_neg g, if_neg (by omega), had_valOr h]
      refine had_same fun y hy => ?_
      have h1 := m4 y.a (hml y hy).1
      have h2 := m4 y.b (hml y hy).2
      omega
/-! ## holds, Diff, pieces -/
theorem holds_eq {l : List Row} (h : okN none l) (p : Piece) : holdsC l p = holdsS l p := by
  unfold holdsC holdsS
  rw [bnds_one]
  have e : ∀ t, atR l t = hadF l t := atR_had h
  simp only [e]
theorem diffG_congr {f g f' g' : Int → Val} (hf : ∀ t, f t = f' t) (hg : ∀ t, g t = g' t) : ∀ (ps : List (Int × Int)) (acc : List Piece), diffG f g ps acc = diffG f' g' ps acc
  | [], acc => rfl
  | q :: r, acc => by rw [diffG, diffG, hf, hg, diffG_congr hf hg]
theorem pieces_eq : ∀ (l : List Piece) (q : Option Piece) (e : Int), (∀ p, q = some p → p.b = e) → (q = none → e = 0) → piecesG e l = piecesR q l
  | [], q, e, _, _ => rfl
  | p :: r, q, e, h1, h2 => by
    have ih := pieces_eq r (some p) p.b (fun p' hp => by cases hp; rfl) (fun h => by cases h)
    simp only [piecesG, piecesR, ih]
    cases q with
    | none =>
      obtain rfl := h2 rfl
      by_cases hs : isSpan p.a p.b = true
      · have : ¬ p.a < 0 := by simp [isSpan] at hs; omega
        simp [this]
      · simp [hs]
    | some w =>
      have := h1 w rfl
      subst this
      show _ = (isSpan p.a p.b && !decide (p.h = p.w) && mayV p.h && mayV p.w && (!decide (p.a < w.b)) && piecesR (some p) r)
      cases isSpan p.a p.b <;> cases (decide (p.a < w.b)) <;> cases (decide (p.h = p.w)) <;> cases mayV p.h <;> cases mayV p.w <;> rfl
end Go.Proofs.YtedniogmjhhhmaaDoor
