/-
  Rows, plain: the search finds what is had.
-/
import Derived.Test.YtbilmkcdhodenaaDoorXT3
set_option linter.all false
set_option linter.unusedSimpArgs false
set_option linter.unusedVariables false
section
namespace Go.Proofs.YtbilmkcdhodenaaDoor
open Go Go.Ev
theorem bs_le (l : List Row) (t : Int) : ∀ (f lo hi : Nat), lo ≤ hi → hi ≤ l.length → lo ≤ bs l t f lo hi ∧ bs l t f lo hi ≤ hi
  | 0, lo, hi, h, _ => ⟨Nat.le_refl _, h⟩
  | f + 1, lo, hi, h, h2 => by
    simp only [bs]
    split
    · split
      · have := bs_le l t f ((lo + hi) / 2 + 1) hi (by omega) h2; omega
      · have := bs_le l t f lo ((lo + hi) / 2) (by omega) (by omega); omega
    · omega
/-- Where the ends rise, it finds the first row whose end is behind t. -/
theorem bs_find (l : List Row) (t : Int) (hs : ∀ i j, i ≤ j → j < l.length → (l.getD i default).b ≤ (l.getD j default).b) : ∀ (f lo hi : Nat), lo ≤ hi → hi ≤ l.length → hi - lo ≤ f → (∀ i, i < lo → (l.getD i default).b ≤ t) → (∀ i, hi ≤ i → i < l.length → t < (l.getD i default).b) →
    (∀ i, i < bs l t f lo hi → (l.getD i default).b ≤ t) ∧ (∀ i, bs l t f lo hi ≤ i → i < l.length → t < (l.getD i default).b)
  | 0, lo, hi, h, _, h3, h4, h5 => by
    obtain rfl : lo = hi := by omega
    exact ⟨h4, h5⟩
  | f + 1, lo, hi, h, h2, h3, h4, h5 => by
    simp only [bs]
    split
    · rename_i hlt
      split
      · rename_i hb
        refine bs_find l t hs f ((lo + hi) / 2 + 1) hi (by omega) h2 (by omega) (fun i hi' => ?_) h5
        exact Int.le_trans (hs i ((lo + hi) / 2) (by omega) (by omega)) hb
      · rename_i hb
        refine bs_find l t hs f lo ((lo + hi) / 2) (by omega) (by omega) (by omega) h4 (fun i h6 h7 => ?_)
        have := hs ((lo + hi) / 2) i h6 h7
        omega
    · obtain rfl : lo = hi := by omega
      exact ⟨h4, h5⟩
/-- In normal form: spans that rise, with a value each, no two that touch with the same. -/
def okN : Option Row → List Row → Prop
  | _, [] => True
  | q, x :: r => x.a < x.b ∧ x.v.k ≠ 0 ∧ (∀ w, q = some w → w.b ≤ x.a ∧ ¬ (w.b = x.a ∧ w.v = x.v)) ∧ okN (some x) r
def holdsAt (x : Row) (t : Int) : Prop := x.a ≤ t ∧ t < x.b
instance (x : Row) (t : Int) : Decidable (holdsAt x t) := inferInstanceAs (Decidable (x.a ≤ t ∧ t < x.b))
theorem had_cons (x : Row) (l : List Row) (t : Int) : hadF (x :: l) t = if holdsAt x t then x.v else hadF l t := rfl
theorem had_none {l : List Row} {t : Int} (h : ∀ y ∈ l, ¬ holdsAt y t) : hadF l t = Val.none := by
  induction l with
  | nil => rfl
  | cons x r ih =>
    rw [had_cons, if_neg (h x (by simp)), ih fun y hy => h y (by simp [hy])]
theorem had_app_none {l m : List Row} {t : Int} (h : ∀ y ∈ l, ¬ holdsAt y t) : hadF (l ++ m) t = hadF m t := by
  induction l with
  | nil => rfl
  | cons x r ih =>
    rw [List.cons_append, had_cons, if_neg (h x (by simp)), ih fun y hy => h y (by simp [hy])]
theorem okN_tail {q : Option Row} {x : Row} {r : List Row} (h : okN q (x :: r)) : okN (some x) r := h.2.2.2
theorem okN_from : ∀ {l : List Row} {w : Row}, okN (some w) l → ∀ y ∈ l, w.b ≤ y.a
  | [], _, _, y, hy => by simp at hy
  | x :: r, w, h, y, hy => by
    obtain ⟨h1, h2, h3, h4⟩ := h
    have h5 := (h3 w rfl).1
    rcases List.mem_cons.1 hy with rfl | hy
    · exact h5
    · have := okN_from h4 y hy; omega
theorem okN_mem : ∀ {l : List Row} {q : Option Row}, okN q l → ∀ y ∈ l, y.a < y.b ∧ y.v.k ≠ 0
  | [], _, _, y, hy => by simp at hy
  | x :: r, q, h, y, hy => by
    rcases List.mem_cons.1 hy with rfl | hy
    · exact ⟨h.1, h.2.1⟩
    · exact okN_mem h.2.2.2 y hy
theorem checkV_k {v : Val} (h : checkV v = 0) : v.k ≠ 0 := by
  intro hk
  simp [checkV, hk] at h
theorem okFrom_okN : ∀ {l : List Row} {p : Option Row}, okFrom p l = true → okN p l
  | [], _, _ => trivial
  | x :: r, p, h => by
    simp only [okFrom, Bool.and_eq_true, decide_eq_true_eq] at h
    obtain ⟨⟨⟨h1, h2⟩, h3⟩, h4⟩ := h
    simp only [isSpan, Bool.and_eq_true, decide_eq_true_eq] at h1
    refine ⟨h1.1.2, checkV_k h2, fun w hw => ?_, okFrom_okN h4⟩
    subst hw
    simp only [Bool.not_eq_true', Bool.or_eq_false_iff, decide_eq_false_iff_not, Bool.and_eq_false_iff] at h3
    refine ⟨by omega, fun hc => ?_⟩
    rcases h3.2 with h | h
    · exact h hc.1.symm
    · exact h hc.2.symm
theorem right_okN {l : List Row} (h : right l = true) : okN none l := by
  simp only [right, Bool.and_eq_true] at h
  exact okFrom_okN h.2

/-- The search finds what is had. -/
theorem atR_had {l : List Row} (h : okN none l) (t : Int) : atR l t = hadF l t := by
  have hs : ∀ i j, i ≤ j → j < l.length → (l.getD i default).b ≤ (l.getD j default).b := by
    have : ∀ (l : List Row) (q : Option Row), okN q l → ∀ i j, i ≤ j → j < l.length → (l.getD i default).b ≤ (l.getD j default).b := by
      intro l
      induction l with
      | nil => intro q _ i j _ hj; simp at hj
      | cons x r ih =>
        intro q hq i j hij hj
        cases j with
        | zero => obtain rfl : i = 0 := by omega
                  exact Int.le_refl _
        | succ j =>
          cases i with
          | zero =>
            have hj' : j < r.length := by simpa using hj
            have e : ((x :: r).getD (j + 1) default) = r[j] := by simp [List.getD_eq_getElem?_getD, hj']
            rw [e]
            have h1 := okN_from (okN_tail hq) r[j] (List.getElem_mem hj')
            have h2 := (okN_mem (okN_tail hq) r[j] (List.getElem_mem hj')).1
            show x.b ≤ _
            omega
          | succ i =>
            have := ih (some x) (okN_tail hq) i j (by omega) (by simpa using hj)
            simpa using this
    exact this l none h
  obtain ⟨h1, h2⟩ := bs_find l t hs l.length 0 l.length (Nat.zero_le _) (Nat.le_refl _) (by omega) (fun i hi => by omega) (fun i h1 h2 => by omega)
  have hle := (bs_le l t l.length 0 l.length (Nat.zero_le _) (Nat.le_refl _)).2
  have hb : bs l t l.length 0 l.length = bsF l t := rfl
  rw [hb] at h1 h2 hle
  have hsplit : hadF l t = hadF (l.drop (bsF l t)) t := by
    conv => lhs; rw [← List.take_append_drop (bsF l t) l]
    refine had_app_none fun y hy hc => ?_
    obtain ⟨j, hj, rfl⟩ := List.getElem_of_mem hy
    have hj2 : j < bsF l t := by rw [List.length_take] at hj; omega
    have hj3 : j < l.length := by omega
    have := h1 j hj2
    rw [getD_at hj3] at this
    have h5 := hc.2
    rw [List.getElem_take] at h5
    omega
  rw [hsplit]
  unfold atR
  by_cases hi : bsF l t < l.length
  · rw [dif_pos hi, List.drop_eq_getElem_cons hi, had_cons]
    have h3 := h2 (bsF l t) (Nat.le_refl _) hi
    rw [getD_at hi] at h3
    by_cases ha : l[bsF l t].a ≤ t
    · rw [if_pos ha, if_pos ⟨ha, h3⟩]
    · rw [if_neg ha, if_neg (fun hc => ha hc.1), had_none]
      intro y hy hc
      have hm : y ∈ l.drop (bsF l t) := by rw [List.drop_eq_getElem_cons hi]; exact List.mem_cons_of_mem _ hy
      have hok : ∀ (k : Nat) (l : List Row) (q : Option Row), okN q l → (hk : k < l.length) → ∀ y ∈ l.drop (k + 1), l[k].b ≤ y.a := by
        intro k
        induction k with
        | zero =>
          intro l q hq hk y hy
          cases l with
          | nil => simp at hk
          | cons x r => exact okN_from (okN_tail hq) y (by simpa using hy)
        | succ k ih =>
          intro l q hq hk y hy
          cases l with
          | nil => simp at hk
          | cons x r => exact ih r (some x) (okN_tail hq) (by simpa using hk) y (by simpa using hy)
      have h4 := hok _ l none h hi y hy
      have h5 := hc.1
      have h6 := (okN_mem h l[bsF l t] (List.getElem_mem hi)).1
      omega
  · rw [dif_neg hi, List.drop_of_length_le (by omega)]; rfl
end Go.Proofs.YtbilmkcdhodenaaDoor

end

/-
  Chapter 31 (search), plain: runs, from a commit back.
-/
section
namespace Go.Proofs.YtbilmkcdhodenaaDoor
open Go Go.Ev

/-! ## runs -/
/-- Runs from the oldest commit on: as the program has them, turned. -/
def grpO : List Rn → List Rn
  | [] => []
  | s :: m => match grpO m with
    | [] => [s]
    | x :: g => if x.v = s.v then s :: g else s :: x :: g
theorem stepR_rev (out : List Rn) (s : Rn) : (stepR out s).reverse = match out.reverse with
    | [] => [s]
    | x :: g => if x.v = s.v then s :: g else s :: x :: g := by
  rcases List.eq_nil_or_concat out with rfl | ⟨o, x, rfl⟩
  · rfl
  · unfold stepR
    simp only [List.concat_eq_append, List.getLast?_append, List.getLast?_singleton, Option.some_or, List.dropLast_concat, List.reverse_append, List.reverse_singleton, List.singleton_append]
    split <;> simp
theorem foldR_rev : ∀ (l : List Rn), (l.foldl stepR []).reverse = grpO l.reverse := by
  intro l
  have : ∀ m : List Rn, ((m.reverse).foldl stepR []).reverse = grpO m := by
    intro m
    induction m with
    | nil => rfl
    | cons s m ih =>
      rw [List.reverse_cons, List.foldl_append]
      simp only [List.foldl_cons, List.foldl_nil]
      rw [stepR_rev, ih, grpO]
  rw [← this l.reverse, List.reverse_reverse]
/-- As the reference has them, from the oldest commit on. -/
def refO (was : Val) : List Rn → List Rn
  | [] => []
  | s :: r => if s.v = was then refO s.v r else s :: refO s.v r
theorem grpO_ref : ∀ (m : List Rn) (s : Rn), grpO (s :: m) = s :: refO s.v m
  | [], s => rfl
  | x :: m, s => by
    rw [grpO, grpO_ref m x]
    simp only
    rw [refO]
    split <;> rfl
theorem refO_none (m : List Rn) : (match grpO m with | [] => [] | x :: g => if x.v = Val.none then g else x :: g) = refO Val.none m := by
  cases m with
  | nil => rfl
  | cons s m =>
    rw [grpO_ref]
    simp only [refO]
/-- What the program tells as runs. -/
theorem runsP_ref (l : List Rn) (hk : ∀ s ∈ l, s.v.k = 0 ↔ s.v = Val.none) : runsP l = refO Val.none l.reverse := by
  rw [← refO_none, ← foldR_rev]
  unfold runsP
  have hmem : ∀ (m : List Rn) (out : List Rn), (∀ s ∈ m, s.v.k = 0 ↔ s.v = Val.none) → (∀ s ∈ out, s.v.k = 0 ↔ s.v = Val.none) → ∀ s ∈ m.foldl stepR out, s.v.k = 0 ↔ s.v = Val.none := by
    intro m
    induction m with
    | nil => intro out _ h; exact h
    | cons s m ih =>
      intro out h1 h2
      rw [List.foldl_cons]
      refine ih _ (fun x hx => h1 x (by simp [hx])) fun x hx => ?_
      unfold stepR at hx
      split at hx
      · split at hx
        · rw [List.mem_append] at hx
          rcases hx with hx | hx
          · exact h2 x ((List.dropLast_sublist _).subset hx)
          · simp only [List.mem_singleton] at hx; subst hx; exact h1 _ (by simp)
        · rw [List.mem_append] at hx
          rcases hx with hx | hx
          · exact h2 x hx
          · simp only [List.mem_singleton] at hx; subst hx; exact h1 _ (by simp)
      · rw [List.mem_append] at hx
        rcases hx with hx | hx
        · exact h2 x hx
        · simp only [List.mem_singleton] at hx; subst hx; exact h1 _ (by simp)
  have hm := hmem l [] hk (by simp)
  generalize l.foldl stepR [] = out at *
  rcases List.eq_nil_or_concat out with rfl | ⟨o, x, rfl⟩
  · rfl
  · have hx := hm x (by simp)
    simp only [List.concat_eq_append, dropN, List.getLast?_append, List.getLast?_singleton, Option.some_or, List.dropLast_concat, List.reverse_append, List.reverse_singleton, List.singleton_append]
    by_cases h : x.v.k = 0
    · rw [if_pos h, if_pos (hx.1 h)]
    · rw [if_neg h, if_neg (fun e => h (hx.2 e))]; simp
theorem stepR_snoc (out : List Rn) (x s : Rn) : stepR (out ++ [x]) s = if x.v = s.v then out ++ [s] else out ++ [x] ++ [s] := by simp [stepR]
theorem fold_keep : ∀ (m o : List Rn) (y : Rn), ∃ t, m.foldl stepR (o ++ [y]) = o ++ t := by
  intro m
  induction m with
  | nil => intro o y; exact ⟨[y], rfl⟩
  | cons z m ih =>
    intro o y
    rw [List.foldl_cons, stepR_snoc]
    split
    · exact ih o z
    · obtain ⟨t, ht⟩ := ih (o ++ [y]) z
      exact ⟨[y] ++ t, by rw [ht, List.append_assoc]⟩
/-- Where the newest run begins: the last one of the first ones that have the same value. -/
theorem fold_head : ∀ (l : List Rn) (s : Rn) (out : List Rn), ((l.foldl stepR (out ++ [s])).drop out.length).head? = some (lastSame s l) := by
  intro l
  induction l with
  | nil => intro s out; simp [lastSame]
  | cons x l ih =>
    intro s out
    rw [List.foldl_cons, stepR_snoc, lastSame]
    by_cases h : s.v = x.v
    · rw [if_pos h, if_pos h]; exact ih x out
    · rw [if_neg h, if_neg h]
      obtain ⟨t, ht⟩ := fold_keep l (out ++ [s]) x
      rw [ht]
      simp
end Go.Proofs.YtbilmkcdhodenaaDoor

end

/-
  Chapter 31 (search), plain: commits along first parents fall; values; what the program tells is what the reference tells.
-/
section
namespace Go.Proofs.YtbilmkcdhodenaaDoor
open Go Go.Ev

/-! ## commits along first parents -/
theorem firstFrom_desc {l : List Gr.Cm} (ha : Gr.Ahead l) : ∀ (k : Nat) (i : Int), 1 ≤ i → (Gr.firstFrom l k (l.getD (i - 1).toNat ([], 0)).1).Pairwise (fun a b => b < a) ∧ ∀ x ∈ Gr.firstFrom l k (l.getD (i - 1).toNat ([], 0)).1, x < i
  | 0, i, _ => by simp [Gr.firstFrom]
  | k + 1, i, hi => by
    match hc : (l.getD (i - 1).toNat ([], 0)).1 with
    | [] => simp [Gr.firstFrom]
    | p :: ps =>
      have hp := ha i.toNat p (by unfold Gr.par; rw [show i.toNat - 1 = (i - 1).toNat by omega, hc]; simp)
      obtain ⟨h1, h2⟩ := firstFrom_desc ha k p hp.1
      rw [Gr.firstFrom]
      refine ⟨List.pairwise_cons.2 ⟨h2, h1⟩, fun x hx => ?_⟩
      rcases List.mem_cons.1 hx with rfl | hx
      · omega
      · have := h2 x hx; omega
/-- Along first parents, from a commit that there is: it ahead, then ever lower ones. -/
theorem firstG_cons {l : List Gr.Cm} {n : Int} (h : Gr.hasG l [n] = true) : ∃ F, Gr.firstG l n = n :: F ∧ (n :: F).Pairwise (fun a b => b < a) := by
  obtain ⟨hr, h1, h2⟩ := Gr.has_one h
  obtain ⟨d1, d2⟩ := firstFrom_desc (Gr.right_ahead hr) n.toNat n h1
  exact ⟨_, by unfold Gr.firstG; rw [if_pos h], List.pairwise_cons.2 ⟨d2, d1⟩⟩
theorem isP_has {l : List Gr.Cm} {ks : List Nd} {n : Int} : isP l ks n = (worldOk l ks && Gr.hasG l [n]) := by
  rw [Bool.eq_iff_iff]
  simp only [isP, Gr.hasG, worldOk, Gr.noNum, Bool.and_eq_true, decide_eq_true_eq, List.any_cons, List.any_nil, Bool.or_false, Bool.not_eq_true', Bool.or_eq_false_iff, decide_eq_false_iff_not]
  constructor
  · rintro ⟨⟨h1, h2⟩, h3⟩
    exact ⟨h3, h3.1.1, by omega, by omega⟩
  · rintro ⟨h3, _, h1, h2⟩
    exact ⟨⟨by omega, by omega⟩, h3⟩
def mk (f : Int → Val) (F : List Int) : List Rn := F.map fun k => ⟨k, f k⟩
theorem backP_is {l : List Gr.Cm} {ks : List Nd} {n : Int} (q : List UInt8) (t : Int) (h : isP l ks n = true) : ∃ F, Gr.firstG l n = n :: F ∧ (n :: F).Pairwise (fun a b => b < a) ∧ backP l ks n q t = mk (valAt ks q t) (n :: F) := by
  rw [isP_has, Bool.and_eq_true] at h
  obtain ⟨F, h1, h2⟩ := firstG_cons h.2
  exact ⟨F, h1, h2, by unfold backP; rw [if_pos h.1, h1]; rfl⟩
theorem backP_no {l : List Gr.Cm} {ks : List Nd} {n : Int} (q : List UInt8) (t : Int) (h : ¬ isP l ks n = true) : backP l ks n q t = [] := by
  rw [isP_has, Bool.and_eq_true] at h
  unfold backP
  split
  · rename_i hw
    have : ¬ Gr.hasG l [n] = true := fun e => h ⟨hw, e⟩
    unfold Gr.firstG
    rw [if_neg this]; rfl
  · rfl
/-! ## values -/
theorem getW_right : ∀ (n : Nat) (t : Nd) (p : List UInt8) (k : Nat), okL t.kids k (-1) = true → right t.rows = true → right (getW n t p) = true
  | 0, t, p, k, _, h => by rw [getW]; exact h
  | n + 1, t, [], k, _, h => by rw [getW]; exact h
  | n + 1, t, b :: p, k, hk, h => by
    rw [getW]
    cases hf : findK b t.kids with
    | none => rfl
    | some x =>
      have hm : x ∈ t.kids := List.mem_of_find?_eq_some hf
      have hx := (okL_mem hk x hm).1
      simp only
      split
      · exact getW_right n x _ _ (okT_lab hx).2.2 (okT_right hx)
      · rfl
theorem getR_right (t : Nd) (p : List UInt8) : right (getR t p) = true := by
  unfold getR
  split
  · rename_i h
    simp only [okR, Bool.and_eq_true, decide_eq_true_eq] at h
    exact getW_right _ _ _ _ h.2 (by rw [h.1.2]; rfl)
  · rfl
theorem valR2_eq (ks : List Nd) (q : List UInt8) (t k : Int) : valR2 ks q t k = valAt ks q t k := by
  unfold valR2 valAt atP
  have h := getR_right (ks.getD (k - 1).toNat default) q
  rw [if_pos h, atR_had (right_okN h)]
theorem val_none (ks : List Nd) (q : List UInt8) (t k : Int) : (valAt ks q t k).k = 0 ↔ valAt ks q t k = Val.none := by
  constructor
  · intro h
    unfold valAt atP at h ⊢
    have hr := getR_right (ks.getD (k - 1).toNat default) q
    generalize getR (ks.getD (k - 1).toNat default) q = rs at *
    rw [if_pos hr] at h ⊢
    unfold atR at h ⊢
    split
    · rename_i h1
      rw [dif_pos h1] at h
      split
      · rename_i h2
        rw [if_pos h2] at h
        exact absurd h (okN_mem (right_okN hr) _ (List.getElem_mem h1)).2
      · rfl
    · rfl
  · intro h; rw [h]; rfl
/-! ## what is told of one commit -/
theorem valueP_eq (l : List Gr.Cm) (ks : List Nd) (n : Int) (q : List UInt8) (t : Int) : valueP (backP l ks n q t) = if isP l ks n = true then valAt ks q t n else Val.none := by
  by_cases h : isP l ks n = true
  · obtain ⟨F, h1, h2, h3⟩ := backP_is q t h
    rw [h3, if_pos h]; rfl
  · rw [backP_no q t h, if_neg h]; rfl
theorem valueR_eq (l : List Gr.Cm) (ks : List Nd) (n : Int) (q : List UInt8) (t : Int) : valueR l ks n q t = valueP (backP l ks n q t) := by
  rw [valueP_eq]; unfold valueR; rw [valR2_eq]
/-! ## ever -/
theorem filter_mk (f : Int → Val) (v : Val) (hv : v.k ≠ 0) : ∀ F : List Int, everP (mk f F) v = F.filter fun k => decide (f k = v)
  | [] => rfl
  | k :: F => by
    have : mk f (k :: F) = ⟨k, f k⟩ :: mk f F := rfl
    rw [this, everP_cons, filter_mk f v hv F, List.filter_cons]
    by_cases h : f k = v
    · rw [if_pos ⟨h, hv⟩, if_pos (by simpa using h)]; rfl
    · rw [if_neg (fun e => h e.1), if_neg (by simpa using h)]; rfl
theorem everP_zero (L : List Rn) (v : Val) (hv : v.k = 0) : everP L v = [] := by
  induction L with
  | nil => rfl
  | cons x r ih => rw [everP_cons, ih, if_neg (by simp [hv])]; rfl
theorem everR_eq (l : List Gr.Cm) (ks : List Nd) (n : Int) (q : List UInt8) (t : Int) (v : Val) : everR l ks n q t v = everP (backP l ks n q t) v := by
  unfold everR
  by_cases h : isP l ks n = true
  · by_cases hv : v.k = 0
    · rw [if_neg (fun e => e.2 hv), everP_zero _ _ hv]
    · obtain ⟨F, h1, h2, h3⟩ := backP_is q t h
      rw [if_pos ⟨h, hv⟩, h3, filter_mk _ _ hv, ← Gr.first_same, h1]
      simp only [valR2_eq]
  · rw [if_neg (fun e => h e.1), backP_no q t h]; rfl
/-! ## runs -/
theorem refO_run (f : Int → Val) : ∀ (X : List Int) (was : Val), refO was (mk f X) = runG f was X
  | [], was => rfl
  | k :: X, was => by
    have : mk f (k :: X) = ⟨k, f k⟩ :: mk f X := rfl
    rw [this, refO, runG, refO_run f X]
theorem runsP_mk (f : Int → Val) (hf : ∀ k, (f k).k = 0 ↔ f k = Val.none) (F : List Int) : runsP (mk f F) = runG f Val.none F.reverse := by
  rw [runsP_ref _ (fun s hs => by
    obtain ⟨k, _, rfl⟩ := List.mem_map.1 hs
    exact hf k)]
  have : (mk f F).reverse = mk f F.reverse := by simp [mk]
  rw [this, refO_run]
theorem runsR_eq (l : List Gr.Cm) (ks : List Nd) (n : Int) (q : List UInt8) (t : Int) : runsR l ks n q t = runsP (backP l ks n q t) := by
  unfold runsR
  by_cases h : isP l ks n = true
  · obtain ⟨F, h1, h2, h3⟩ := backP_is q t h
    rw [if_pos h, h3, runsP_mk _ (val_none ks q t), ← Gr.first_same, h1]
    have : valR2 ks q t = valAt ks q t := funext fun k => valR2_eq ks q t k
    rw [this]
  · rw [if_neg h, backP_no q t h]; rfl
/-! ## from which commit on -/
theorem lastSame_v : ∀ (r : List Rn) (s : Rn), (lastSame s r).v = s.v
  | [], s => rfl
  | x :: r, s => by
    rw [lastSame]
    split
    · rename_i h; rw [lastSame_v r x, h]
    · rfl
theorem firstRn_eq (L : List Rn) : firstRn (runsP L) = firstP L := by
  cases L with
  | nil => rfl
  | cons s r =>
    unfold firstRn runsP firstP
    have hh := fold_head r s []
    rw [List.foldl_cons]
    have e0 : stepR [] s = [s] := rfl
    rw [e0, List.getLast?_reverse]
    simp only [List.nil_append, List.length_nil, List.drop_zero] at hh
    generalize r.foldl stepR [s] = out at *
    have hv := lastSame_v r s
    show _ = (if s.v.k = 0 then 0 else (lastSame s r).c)
    generalize lastSame s r = x at *
    match out, hh with
    | [y], hh =>
      simp only [List.head?_cons, Option.some.injEq] at hh
      subst hh
      by_cases h : y.v.k = 0
      · simp [dropN, h, ← hv]
      · simp [dropN, h, ← hv]
    | y :: z :: o, hh =>
      simp only [List.head?_cons, Option.some.injEq] at hh
      subst hh
      have e1 : (dropN (y :: z :: o)).head? = some y := by
        unfold dropN
        split
        · split <;> simp
        · rfl
      rw [e1, ← hv]
theorem since_mk (f : Int → Val) (v : Val) : ∀ (X : List Int) (a : Int), (lastSame ⟨a, v⟩ (mk f X)).c = sinceR f v a X
  | [], a => rfl
  | k :: X, a => by
    have : mk f (k :: X) = ⟨k, f k⟩ :: mk f X := rfl
    rw [this, lastSame, sinceR]
    by_cases h : f k = v
    · rw [if_pos h.symm, if_pos h, h, since_mk f v X k]
    · rw [if_neg (fun e => h e.symm), if_neg h]
theorem firstR2_eq (l : List Gr.Cm) (ks : List Nd) (n : Int) (q : List UInt8) (t : Int) : firstR2 l ks n q t = firstRn (runsP (backP l ks n q t)) := by
  rw [firstRn_eq]
  unfold firstR2
  rw [valueR_eq]
  by_cases h : isP l ks n = true
  · obtain ⟨F, h1, h2, h3⟩ := backP_is q t h
    rw [h3, ← Gr.first_same, h1]
    have e : mk (valAt ks q t) (n :: F) = ⟨n, valAt ks q t n⟩ :: mk (valAt ks q t) F := rfl
    rw [e]
    have e2 : valR2 ks q t = valAt ks q t := funext fun k => valR2_eq ks q t k
    rw [e2]
    show (if (valAt ks q t n).k = 0 then 0 else sinceR (valAt ks q t) (valAt ks q t n) n (n :: F)) = (if (valAt ks q t n).k = 0 then 0 else (lastSame ⟨n, valAt ks q t n⟩ (mk (valAt ks q t) F)).c)
    rw [since_mk, sinceR, if_pos rfl]
  · rw [backP_no q t h]; rfl
end Go.Proofs.YtbilmkcdhodenaaDoor

end

/-
  Chapter 31 (search), plain: in which run a commit is; a run's value is that of its commits.
-/
section
namespace Go.Proofs.YtbilmkcdhodenaaDoor
open Go Go.Ev

abbrev RiseL (l : List Rn) : Prop := l.Pairwise (fun a b => a.c < b.c)
theorem riseN_pair : ∀ (l : List Rn), riseN l = true → RiseL l
  | [], _ => List.Pairwise.nil
  | [x], _ => List.pairwise_singleton _ _
  | x :: y :: r, h => by
    rw [riseN, Bool.and_eq_true, decide_eq_true_eq] at h
    have ih := riseN_pair (y :: r) h.2
    refine List.pairwise_cons.2 ⟨fun z hz => ?_, ih⟩
    rcases List.mem_cons.1 hz with rfl | hz
    · exact h.1
    · have := List.rel_of_pairwise_cons ih hz; omega
theorem riseN_of : ∀ (l : List Rn), RiseL l → riseN l = true
  | [], _ => rfl
  | [x], _ => rfl
  | x :: y :: r, h => by
    rw [riseN, Bool.and_eq_true, decide_eq_true_eq]
    exact ⟨List.rel_of_pairwise_cons h (by simp), riseN_of (y :: r) (List.pairwise_cons.1 h).2⟩
/-- How many commits are no later than one. -/
def cntN (l : List Rn) (n : Int) : Nat := (l.takeWhile fun x => decide (x.c ≤ n)).length
theorem cntN_cons (x : Rn) (r : List Rn) (n : Int) : cntN (x :: r) n = if x.c ≤ n then cntN r n + 1 else 0 := by
  unfold cntN
  rw [List.takeWhile_cons]
  by_cases h : x.c ≤ n <;> simp [h]
theorem cntN_le (l : List Rn) (n : Int) : cntN l n ≤ l.length := by
  induction l with
  | nil => exact Nat.le_refl _
  | cons x r ih => rw [cntN_cons, List.length_cons]; split <;> omega
theorem cntN_zero {l : List Rn} {n : Int} (h : ∀ x ∈ l, n < x.c) : cntN l n = 0 := by
  cases l with
  | nil => rfl
  | cons x r => rw [cntN_cons, if_neg (by have := h x (by simp); omega)]
theorem cntN_spec (n : Int) : ∀ (l : List Rn), RiseL l → (∀ i, i < cntN l n → (l.getD i default).c ≤ n) ∧ (∀ i, cntN l n ≤ i → i < l.length → n < (l.getD i default).c)
  | [], _ => ⟨fun i h => absurd h (Nat.not_lt_zero _), fun i _ h => absurd h (Nat.not_lt_zero _)⟩
  | x :: r, h => by
    obtain ⟨h1, h2⟩ := List.pairwise_cons.1 h
    obtain ⟨i1, i2⟩ := cntN_spec n r h2
    rw [cntN_cons]
    by_cases hx : x.c ≤ n
    · rw [if_pos hx]
      refine ⟨fun i hi => ?_, fun i hi hl => ?_⟩
      · cases i with
        | zero => exact hx
        | succ i => exact i1 i (by omega)
      · cases i with
        | zero => omega
        | succ i => exact i2 i (by omega) (by simpa using hl)
    · rw [if_neg hx]
      refine ⟨fun i hi => absurd hi (Nat.not_lt_zero _), fun i _ hl => ?_⟩
      cases i with
      | zero => exact Int.not_le.1 hx
      | succ i =>
        have hi : i < r.length := by simpa using hl
        have := h1 r[i] (List.getElem_mem hi)
        show n < (r.getD i default).c
        rw [rn_getD hi]; omega
theorem bsN_find (l : List Rn) (n : Int) (hs : ∀ i j, i ≤ j → j < l.length → (l.getD i default).c ≤ (l.getD j default).c) : ∀ (f lo hi : Nat), lo ≤ hi → hi ≤ l.length → hi - lo ≤ f → (∀ i, i < lo → (l.getD i default).c ≤ n) → (∀ i, hi ≤ i → i < l.length → n < (l.getD i default).c) →
    (∀ i, i < bsN l n f lo hi → (l.getD i default).c ≤ n) ∧ (∀ i, bsN l n f lo hi ≤ i → i < l.length → n < (l.getD i default).c)
  | 0, lo, hi, h, _, h3, h4, h5 => by
    obtain rfl : lo = hi := by omega
    exact ⟨h4, h5⟩
  | f + 1, lo, hi, h, h2, h3, h4, h5 => by
    simp only [bsN]
    split
    · rename_i hlt
      split
      · rename_i hb
        refine bsN_find l n hs f ((lo + hi) / 2 + 1) hi (by omega) h2 (by omega) (fun i hi' => ?_) h5
        exact Int.le_trans (hs i ((lo + hi) / 2) (by omega) (by omega)) hb
      · rename_i hb
        refine bsN_find l n hs f lo ((lo + hi) / 2) (by omega) (by omega) (by omega) h4 (fun i h6 h7 => ?_)
        have := hs ((lo + hi) / 2) i h6 h7
        omega
    · obtain rfl : lo = hi := by omega
      exact ⟨h4, h5⟩
theorem riseN_le {l : List Rn} (h : RiseL l) (i j : Nat) (hij : i ≤ j) (hj : j < l.length) : (l.getD i default).c ≤ (l.getD j default).c := by
  rw [rn_getD hj, rn_getD (by omega)]
  rcases Nat.lt_or_eq_of_le hij with h1 | h1
  · have := List.pairwise_iff_getElem.1 h i j (by omega) hj h1; omega
  · subst h1; exact Int.le_refl _
theorem bsN_cnt {l : List Rn} (h : RiseL l) (n : Int) : bsN l n l.length 0 l.length = cntN l n := by
  obtain ⟨b1, b2⟩ := bsN_find l n (riseN_le h) l.length 0 l.length (Nat.zero_le _) (Nat.le_refl _) (by omega) (fun i hi => by omega) (fun i h1 h2 => by omega)
  have hb := bsN_le l n l.length 0 l.length (Nat.zero_le _)
  obtain ⟨c1, c2⟩ := cntN_spec n l h
  have hc := cntN_le l n
  generalize bsN l n l.length 0 l.length = b at *
  generalize cntN l n = c at *
  rcases Nat.lt_trichotomy b c with h1 | h1 | h1
  · have := c1 b h1; have := b2 b (Nat.le_refl _) (by omega); omega
  · exact h1
  · have := b1 c h1; have := c2 c (Nat.le_refl _) (by omega); omega
theorem halvesG_rise (n : Int) : ∀ (l : List Rn) (p : Option Int) (k : Nat) (a : Int), RiseL l → (∀ c, p = some c → ∀ x ∈ l, c < x.c) → halvesG n p k a l = if cntN l n = 0 then a else (k : Int) + cntN l n - 1
  | [], p, k, a, _, _ => by cases p <;> rfl
  | x :: r, p, k, a, h, hp => by
    obtain ⟨h1, h2⟩ := List.pairwise_cons.1 h
    rw [halvesG_cons, if_neg (by
      cases p with
      | none => simp
      | some c => have := hp c rfl x (by simp); simp; omega), halvesG_rise n r _ _ _ h2 (fun c hc y hy => by rw [← Option.some.inj hc]; exact h1 y hy), cntN_cons]
    by_cases hx : x.c ≤ n
    · rw [if_pos hx, if_pos hx, if_neg (Nat.succ_ne_zero _)]
      split <;> omega
    · rw [if_neg hx, if_neg hx, if_pos rfl, if_pos (cntN_zero fun y hy => by have := h1 y hy; omega)]
theorem halvesG_fall (n : Int) : ∀ (l : List Rn) (y : Rn) (k : Nat) (a : Int), riseN (y :: l) = false → halvesG n (some y.c) k a l = -1
  | [], y, k, a, h => by simp [riseN] at h
  | x :: r, y, k, a, h => by
    rw [halvesG_cons]
    simp only [decide_eq_true_eq]
    by_cases hx : x.c ≤ y.c
    · rw [if_pos hx]
    · rw [if_neg hx]
      refine halvesG_fall n r x _ _ ?_
      rw [riseN, show decide (y.c < x.c) = true by simp; omega, Bool.true_and] at h
      exact h
theorem halves_same (l : List Rn) (n : Int) : halvesP l n = halvesR l n := by
  unfold halvesP halvesR
  by_cases h : riseN l = true
  · have hp := riseN_pair l h
    rw [if_pos h, bsN_cnt hp, halvesG_rise n l none 0 (-1) hp (fun c hc => by cases hc)]
    split <;> omega
  · rw [if_neg h]
    rw [Bool.not_eq_true] at h
    cases l with
    | nil => simp [riseN] at h
    | cons x r =>
      rw [halvesG_cons, if_neg (by simp), halvesG_fall n r x _ _ h]
theorem halvesP_cnt {l : List Rn} (h : RiseL l) (n : Int) : halvesP l n = (cntN l n : Int) - 1 := by
  unfold halvesP
  rw [if_pos (riseN_of l h), bsN_cnt h]
/-- The last run that is no later than a commit. -/
def atL (x : Int) : Nat → Int → List Rn → Int
  | _, a, [] => a
  | k, a, s :: r => atL x (k + 1) (if s.c ≤ x then (k : Int) else a) r
theorem atL_rise (x : Int) : ∀ (l : List Rn) (k : Nat) (a : Int), RiseL l → atL x k a l = if cntN l x = 0 then a else (k : Int) + cntN l x - 1
  | [], k, a, _ => rfl
  | s :: r, k, a, h => by
    obtain ⟨h1, h2⟩ := List.pairwise_cons.1 h
    rw [atL, atL_rise x r _ _ h2, cntN_cons]
    by_cases hx : s.c ≤ x
    · rw [if_pos hx, if_pos hx, if_neg (Nat.succ_ne_zero _)]
      split <;> omega
    · rw [if_neg hx, if_neg hx, if_pos rfl, if_pos (cntN_zero fun y hy => by have := h1 y hy; omega)]
/-! ## runs and values -/
theorem runG_rise (f : Int → Val) : ∀ (X : List Int) (was : Val), X.Pairwise (fun a b => a < b) → RiseL (runG f was X) ∧ ∀ s ∈ runG f was X, s.c ∈ X
  | [], was, _ => ⟨List.Pairwise.nil, fun s hs => by rw [runG] at hs; cases hs⟩
  | k :: X, was, h => by
    obtain ⟨h1, h2⟩ := List.pairwise_cons.1 h
    obtain ⟨i1, i2⟩ := runG_rise f X (f k) h2
    rw [runG]
    split
    · exact ⟨i1, fun s hs => List.mem_cons_of_mem _ (i2 s hs)⟩
    · refine ⟨List.pairwise_cons.2 ⟨fun s hs => h1 _ (i2 s hs), i1⟩, fun s hs => ?_⟩
      rcases List.mem_cons.1 hs with rfl | hs
      · simp
      · exact List.mem_cons_of_mem _ (i2 s hs)
theorem runG_val (f : Int → Val) : ∀ (X : List Int) (was : Val), X.Pairwise (fun a b => a < b) → ∀ x ∈ X, (cntN (runG f was X) x = 0 → f x = was) ∧ (0 < cntN (runG f was X) x → ((runG f was X).getD (cntN (runG f was X) x - 1) default).v = f x)
  | [], was, _, x, hx => by cases hx
  | k :: X, was, h, x, hx => by
    obtain ⟨h1, h2⟩ := List.pairwise_cons.1 h
    obtain ⟨r1, r2⟩ := runG_rise f X (f k) h2
    have hlate : x = k → cntN (runG f (f k) X) x = 0 := fun e => cntN_zero fun s hs => by rw [e]; exact h1 _ (r2 s hs)
    rw [runG]
    by_cases hk : f k = was
    · rw [if_pos hk]
      rcases List.mem_cons.1 hx with rfl | hx
      · rw [hlate rfl]
        exact ⟨fun _ => hk, fun h => absurd h (Nat.lt_irrefl _)⟩
      · have := runG_val f X (f k) h2 x hx
        exact ⟨fun h => (this.1 h).trans hk, this.2⟩
    · rw [if_neg hk, cntN_cons]
      have hkx : k ≤ x := by
        rcases List.mem_cons.1 hx with rfl | hx
        · exact Int.le_refl _
        · have := h1 x hx; omega
      rw [if_pos hkx]
      refine ⟨fun h => absurd h (Nat.succ_ne_zero _), fun _ => ?_⟩
      rw [Nat.add_sub_cancel]
      by_cases hc : cntN (runG f (f k) X) x = 0
      · rw [hc]
        show f k = f x
        rcases List.mem_cons.1 hx with rfl | hx
        · rfl
        · exact ((runG_val f X (f k) h2 x hx).1 hc).symm
      · have hxX : x ∈ X := by
          rcases List.mem_cons.1 hx with rfl | hx
          · exact absurd (hlate rfl) hc
          · exact hx
        have := (runG_val f X (f k) h2 x hxX).2 (by omega)
        obtain ⟨m, hm⟩ : ∃ m, cntN (runG f (f k) X) x = m + 1 := ⟨cntN (runG f (f k) X) x - 1, by omega⟩
        rw [hm] at this ⊢
        exact this
section
variable (l : List Gr.Cm) (ks : List Nd) (n : Int) (q : List UInt8) (t : Int)
theorem world_no (h : ¬ worldOk l ks = true) (x : Int) : backP l ks x q t = [] := backP_no q t fun e => h (by simp only [isP, Bool.and_eq_true] at e; exact e.2)
theorem backP_ok (h : worldOk l ks = true) : backP l ks n q t = mk (valAt ks q t) (Gr.firstG l n) := by unfold backP; rw [if_pos h]; rfl
theorem firstG_desc : (Gr.firstG l n).Pairwise (fun a b => b < a) := by
  by_cases h : Gr.hasG l [n] = true
  · obtain ⟨F, h1, h2⟩ := firstG_cons h
    rw [h1]; exact h2
  · unfold Gr.firstG; rw [if_neg h]; exact List.Pairwise.nil
theorem runs_is (h : worldOk l ks = true) : runsP (backP l ks n q t) = runG (valAt ks q t) Val.none (Gr.firstG l n).reverse := by
  rw [backP_ok l ks n q t h, runsP_mk _ (val_none ks q t)]
theorem rev_rise : (Gr.firstG l n).reverse.Pairwise (fun a b => a < b) := List.pairwise_reverse.2 (firstG_desc l n)
theorem runs_rise : RiseL (runsP (backP l ks n q t)) := by
  by_cases h : worldOk l ks = true
  · rw [runs_is l ks n q t h]
    exact (runG_rise _ _ _ (rev_rise l n)).1
  · rw [world_no l ks q t h]; exact List.Pairwise.nil
theorem val_first {x : Int} (h : worldOk l ks = true) (hx : x ∈ Gr.firstG l n) : valueP (backP l ks x q t) = valAt ks q t x := by
  have hm := firstG_mem hx
  rw [valueP_eq, if_pos]
  simp only [isP, Bool.and_eq_true, decide_eq_true_eq]
  exact ⟨hm, h⟩
/-- Each commit has the value of the last run at it, or ahead of it. -/
theorem between {x : Int} (hx : x ∈ Gr.firstG l n) : atL x 0 (-1) (runsP (backP l ks n q t)) = halvesP (runsP (backP l ks n q t)) x ∧
    ((halvesP (runsP (backP l ks n q t)) x = -1 ∧ (valueP (backP l ks x q t)).k = 0) ∨ ∃ k : Nat, halvesP (runsP (backP l ks n q t)) x = k ∧ ∃ hk : k < (runsP (backP l ks n q t)).length, (runsP (backP l ks n q t))[k].v = valueP (backP l ks x q t)) := by
  have hr := runs_rise l ks n q t
  refine ⟨by rw [atL_rise x _ 0 (-1) hr, halvesP_cnt hr]; split <;> omega, ?_⟩
  rw [halvesP_cnt hr]
  by_cases h : worldOk l ks = true
  · rw [val_first l ks n q t h hx]
    have hv := runG_val (valAt ks q t) _ Val.none (rev_rise l n) x (List.mem_reverse.2 hx)
    rw [← runs_is l ks n q t h] at hv
    have hle := cntN_le (runsP (backP l ks n q t)) x
    by_cases hc : cntN (runsP (backP l ks n q t)) x = 0
    · left
      rw [hv.1 hc, hc]
      exact ⟨rfl, rfl⟩
    · right
      have h2 := hv.2 (by omega)
      have hlt : cntN (runsP (backP l ks n q t)) x - 1 < (runsP (backP l ks n q t)).length := by omega
      rw [rn_getD hlt] at h2
      exact ⟨cntN (runsP (backP l ks n q t)) x - 1, by omega, hlt, h2⟩
  · left
    rw [world_no l ks q t h, world_no l ks q t h]
    exact ⟨rfl, rfl⟩
end
end Go.Proofs.YtbilmkcdhodenaaDoor

end
