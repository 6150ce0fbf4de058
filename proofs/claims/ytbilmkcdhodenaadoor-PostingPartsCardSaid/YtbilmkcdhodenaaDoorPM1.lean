/-
  Chapter 13 (posting), plain: texts in order, postings in order, what is found by halves, lists put together.
-/
import Derived.Test.YtbilmkcdhodenaaDoorPD
set_option linter.all false
set_option linter.unusedSimpArgs false
set_option linter.unusedVariables false
namespace Go.Proofs.YtbilmkcdhodenaaDoor
open Go Go.Ev

/-! ## texts in order -/
theorem bl_irrefl : ∀ x : List UInt8, Op.bytesLess x x = false
  | [] => rfl
  | a :: x => by simp [Op.bytesLess, bl_irrefl x]
theorem bl_trans : ∀ {x y z : List UInt8}, Op.bytesLess x y = true → Op.bytesLess y z = true → Op.bytesLess x z = true
  | [], [], _, h, _ => by simp [Op.bytesLess] at h
  | [], _ :: _, [], _, h => by simp [Op.bytesLess] at h
  | [], _ :: _, _ :: _, _, _ => rfl
  | _ :: _, [], _, h, _ => by simp [Op.bytesLess] at h
  | _ :: _, _ :: _, [], _, h => by simp [Op.bytesLess] at h
  | a :: x, b :: y, c :: z, h, k => by
    simp only [Op.bytesLess, Bool.or_eq_true, decide_eq_true_eq, Bool.and_eq_true, beq_iff_eq] at h k ⊢
    rcases h with h | ⟨rfl, h⟩
    · rcases k with k | ⟨rfl, k⟩
      · exact .inl (UInt8.lt_trans h k)
      · exact .inl h
    · rcases k with k | ⟨rfl, k⟩
      · exact .inl k
      · exact .inr ⟨rfl, bl_trans h k⟩
theorem bl_total : ∀ (x y : List UInt8), Op.bytesLess x y = false → Op.bytesLess y x = false → x = y
  | [], [], _, _ => rfl
  | [], _ :: _, h, _ => by simp [Op.bytesLess] at h
  | _ :: _, [], _, h => by simp [Op.bytesLess] at h
  | a :: x, b :: y, h, k => by
    simp only [Op.bytesLess, Bool.or_eq_false_iff, decide_eq_false_iff_not, Bool.and_eq_false_iff, beq_eq_false_iff_ne] at h k
    have e : a = b := by
      have h1 := h.1
      have h2 := k.1
      rw [UInt8.lt_iff_toNat_lt] at h1 h2
      exact UInt8.toNat_inj.1 (by omega)
    subst e
    rw [bl_total x y (by rcases h.2 with h | h; · exact absurd rfl h
                         · exact h) (by rcases k.2 with k | k; · exact absurd rfl k
                                        · exact k)]
theorem bl_asymm {x y : List UInt8} (h : Op.bytesLess x y = true) : Op.bytesLess y x = false := by
  cases k : Op.bytesLess y x with
  | false => rfl
  | true => have := bl_trans h k; rw [bl_irrefl] at this; exact absurd this (by simp)
theorem bl_ne {x y : List UInt8} (h : Op.bytesLess x y = true) : x ≠ y := by
  rintro rfl; rw [bl_irrefl] at h; exact absurd h (by simp)

/-! ## postings in order -/
theorem lessP_iff {a b : Pst} : lessP a b = true ↔ Op.bytesLess a.p b.p = true ∨ (a.p = b.p ∧ a.c < b.c) := by simp [lessP]
theorem lessP_irrefl (a : Pst) : lessP a a = false := by simp [lessP, bl_irrefl]
theorem lessP_trans {a b c : Pst} (h : lessP a b = true) (k : lessP b c = true) : lessP a c = true := by
  rw [lessP_iff] at *
  rcases h with h | ⟨h, h'⟩
  · rcases k with k | ⟨k, k'⟩
    · exact .inl (bl_trans h k)
    · rw [← k]; exact .inl h
  · rcases k with k | ⟨k, k'⟩
    · rw [h]; exact .inl k
    · exact .inr ⟨h.trans k, by omega⟩
theorem lessP_asymm {a b : Pst} (h : lessP a b = true) : lessP b a = false := by
  cases k : lessP b a with
  | false => rfl
  | true => have := lessP_trans h k; rw [lessP_irrefl] at this; exact absurd this (by simp)
/-- Neither stands ahead of the other one: the same key. -/
theorem lessP_key {a b : Pst} (h : lessP a b = false) (k : lessP b a = false) : a.p = b.p ∧ a.c = b.c := by
  simp only [lessP, Bool.or_eq_false_iff, Bool.and_eq_false_iff, decide_eq_false_iff_not] at h k
  have e := bl_total _ _ h.1 k.1
  refine ⟨e, ?_⟩
  rcases h.2 with h2 | h2
  · exact absurd e h2
  · rcases k.2 with k2 | k2
    · exact absurd e.symm k2
    · omega
theorem lessP_ntrans {a b c : Pst} (h : lessP a b = false) (k : lessP b c = false) : lessP a c = false := by
  cases e : lessP a c with
  | false => rfl
  | true =>
    exfalso
    cases hb : lessP b a with
    | true => rw [lessP_trans hb e] at k; cases k
    | false =>
      have hk := lessP_key h hb
      rw [lessP_iff, hk.1, hk.2] at e
      rw [← Bool.not_eq_true, lessP_iff] at k
      exact k e
theorem orderP_neg {a b : Pst} : orderP a b < 0 ↔ lessP a b = true := by
  unfold orderP cmpB lessP
  by_cases h : Op.bytesLess a.p b.p = true
  · simp [h]
  · have h' : Op.bytesLess a.p b.p = false := by simpa using h
    by_cases e : a.p = b.p
    · simp only [h', e, bl_irrefl]
      simp
      unfold cmpI
      split
      · simp; assumption
      · split <;> simp <;> omega
    · have k : Op.bytesLess b.p a.p = true := by
        cases k : Op.bytesLess b.p a.p with
        | true => rfl
        | false => exact absurd (bl_total _ _ h' k) e
      simp [h', k, e]
theorem orderP_zero {a b : Pst} : orderP a b = 0 ↔ a.p = b.p ∧ a.c = b.c := by
  unfold orderP cmpB
  by_cases e : a.p = b.p
  · simp only [e, bl_irrefl]
    simp
    unfold cmpI
    split
    · simp; omega
    · split <;> simp <;> omega
  · by_cases h : Op.bytesLess a.p b.p = true
    · simp [h, e]
    · have h' : Op.bytesLess a.p b.p = false := by simpa using h
      have k : Op.bytesLess b.p a.p = true := by
        cases k : Op.bytesLess b.p a.p with
        | true => rfl
        | false => exact absurd (bl_total _ _ h' k) e
      simp [h', k, e]
/-- Right postings, each ahead of the next. -/
theorem okFrom_lt : ∀ {l : List Pst} {p : Option Pst}, okFromP p l = true → (∀ w, p = some w → ∀ x ∈ l, lessP w x = true) ∧ l.Pairwise (fun x y => lessP x y = true)
  | [], p, _ => ⟨fun _ _ _ h => by simp at h, List.Pairwise.nil⟩
  | x :: r, p, h => by
    simp only [okFromP, Bool.and_eq_true] at h
    obtain ⟨h1, h2⟩ := h
    obtain ⟨k1, k2⟩ := okFrom_lt h2
    refine ⟨fun w hw y hy => ?_, List.Pairwise.cons (k1 x rfl) k2⟩
    subst hw
    have hwx : lessP w x = true := h1.2
    rcases List.mem_cons.1 hy with rfl | hy
    · exact hwx
    · exact lessP_trans hwx (k1 x rfl y hy)
theorem okP_lt {l : List Pst} (h : okP l = true) : l.Pairwise (fun x y => lessP x y = true) := (okFrom_lt h).2
theorem okFrom_mem : ∀ {l : List Pst} {p : Option Pst}, okFromP p l = true → ∀ x ∈ l, okOne x = true
  | [], p, _ => by simp
  | x :: r, p, h => by
    simp only [okFromP, Bool.and_eq_true] at h
    intro y hy
    rcases List.mem_cons.1 hy with rfl | hy
    · exact h.1.1
    · exact okFrom_mem h.2 y hy
/-- Right are those who are right one by one and rise. -/
theorem okFrom_of : ∀ {l : List Pst} {p : Option Pst}, (∀ x ∈ l, okOne x = true) → l.Pairwise (fun x y => lessP x y = true) → (∀ w, p = some w → ∀ x, l.head? = some x → lessP w x = true) → okFromP p l = true
  | [], p, _, _, _ => rfl
  | x :: r, p, h1, h2, h3 => by
    simp only [okFromP, Bool.and_eq_true]
    rw [List.pairwise_cons] at h2
    refine ⟨⟨h1 x (by simp), ?_⟩, okFrom_of (fun y hy => h1 y (by simp [hy])) h2.2 fun w hw y hy => ?_⟩
    · cases p with
      | none => rfl
      | some w => exact h3 w rfl x rfl
    · cases hw; exact h2.1 y (List.mem_of_mem_head? hy)

/-! ## two lists as one -/
/-- As the reference puts them together: nothing, if a key stands in both. -/
theorem mergeP_none : ∀ (n : Nat) (l m : List Pst), l.length + m.length ≤ n → mergeP n l m = none → ∃ a ∈ l, ∃ b ∈ m, a.p = b.p ∧ a.c = b.c
  | 0, l, m, h, k => by
    obtain ⟨rfl, rfl⟩ : l = [] ∧ m = [] := by constructor <;> (apply List.eq_nil_of_length_eq_zero; omega)
    simp [mergeP] at k
  | n + 1, [], m, h, k => by simp [mergeP] at k
  | n + 1, x :: l, [], h, k => by simp [mergeP] at k
  | n + 1, x :: l, y :: m, h, k => by
    simp only [mergeP] at k
    split at k
    · simp only [Option.map_eq_none_iff] at k
      obtain ⟨a, ha, b, hb, e⟩ := mergeP_none n l (y :: m) (by simp at h ⊢; omega) k
      exact ⟨a, by simp [ha], b, hb, e⟩
    · rename_i h1
      split at k
      · simp only [Option.map_eq_none_iff] at k
        obtain ⟨a, ha, b, hb, e⟩ := mergeP_none n (x :: l) m (by simp at h ⊢; omega) k
        exact ⟨a, ha, b, by simp [hb], e⟩
      · rename_i h2
        exact ⟨x, by simp, y, by simp, lessP_key (by simpa using h1) (by simpa using h2)⟩
theorem mergeP_some : ∀ (n : Nat) (l m s : List Pst), l.length + m.length ≤ n → mergeP n l m = some s → l.Pairwise (fun x y => lessP x y = true) → m.Pairwise (fun x y => lessP x y = true) →
    s.Perm (l ++ m) ∧ s.Pairwise (fun x y => lessP x y = true)
  | 0, l, m, s, h, k, _, _ => by
    obtain ⟨rfl, rfl⟩ : l = [] ∧ m = [] := by constructor <;> (apply List.eq_nil_of_length_eq_zero; omega)
    simp [mergeP] at k; subst k; simp
  | n + 1, [], m, s, h, k, _, hm => by simp [mergeP] at k; subst k; simpa using hm
  | n + 1, x :: l, [], s, h, k, hl, _ => by simp [mergeP] at k; subst k; simpa using hl
  | n + 1, x :: l, y :: m, s, h, k, hl, hm => by
    simp only [mergeP] at k
    split at k
    · rename_i h1
      simp only [Option.map_eq_some_iff] at k
      obtain ⟨t, k, rfl⟩ := k
      obtain ⟨k1, k2⟩ := mergeP_some n l (y :: m) t (by simp at h ⊢; omega) k (List.pairwise_cons.1 hl).2 hm
      refine ⟨by simpa using k1, List.Pairwise.cons (fun z hz => ?_) k2⟩
      have := k1.mem_iff.1 hz
      rw [List.mem_append] at this
      rcases this with hz | hz
      · exact (List.pairwise_cons.1 hl).1 z hz
      · rcases List.mem_cons.1 hz with rfl | hz
        · exact h1
        · exact lessP_trans h1 ((List.pairwise_cons.1 hm).1 z hz)
    · split at k
      · rename_i h1 h2
        simp only [Option.map_eq_some_iff] at k
        obtain ⟨t, k, rfl⟩ := k
        obtain ⟨k1, k2⟩ := mergeP_some n (x :: l) m t (by simp at h ⊢; omega) k hl (List.pairwise_cons.1 hm).2
        refine ⟨(List.Perm.cons y k1).trans (List.perm_middle (l₁ := x :: l)).symm, List.Pairwise.cons (fun z hz => ?_) k2⟩
        have := k1.mem_iff.1 hz
        rw [List.mem_append] at this
        rcases this with hz | hz
        · rcases List.mem_cons.1 hz with rfl | hz
          · exact h2
          · exact lessP_trans h2 ((List.pairwise_cons.1 hl).1 z hz)
        · exact (List.pairwise_cons.1 hm).1 z hz
      · simp at k

/-- Two rising lists of the same postings are the same. -/
theorem rise_unique : ∀ (s t : List Pst), s.Perm t → s.Pairwise (fun x y => lessP x y = true) → t.Pairwise (fun x y => lessP y x = false) → s = t
  | [], t, h, _, _ => (h.symm.eq_nil).symm
  | x :: s, [], h, _, _ => absurd h.eq_nil (by simp)
  | x :: s, y :: t, h, hs, ht => by
    rw [List.pairwise_cons] at hs ht
    have e : x = y := by
      rcases List.mem_cons.1 (h.mem_iff.1 (List.mem_cons_self)) with h1 | h1
      · exact h1
      · rcases List.mem_cons.1 (h.mem_iff.2 (List.mem_cons_self)) with h2 | h2
        · exact h2.symm
        · have a1 := hs.1 y h2
          have a2 := ht.1 x h1
          rw [a1] at a2; exact absurd a2 (by simp)
    subst e
    rw [rise_unique s t ((List.perm_cons x).1 h) hs.2 ht.2]
/-- Where two neighbours of a sorted list never have the same key, it rises. -/
theorem rise_of_sorted : ∀ (t : List Pst), t.Pairwise (fun x y => lessP y x = false) → twiceP t = false → t.Pairwise (fun x y => lessP x y = true)
  | [], _, _ => List.Pairwise.nil
  | [x], _, _ => by simp
  | x :: y :: t, h, k => by
    simp only [twiceP, Bool.or_eq_false_iff, decide_eq_false_iff_not] at k
    rw [List.pairwise_cons] at h
    have ih := rise_of_sorted (y :: t) h.2 k.2
    have hxy : lessP x y = true := by
      cases hh : lessP x y with
      | true => rfl
      | false => exact absurd (orderP_zero.2 (lessP_key hh (h.1 y (by simp)))) k.1
    refine List.Pairwise.cons (fun z hz => ?_) ih
    rcases List.mem_cons.1 hz with rfl | hz
    · exact hxy
    · exact lessP_trans hxy ((List.pairwise_cons.1 ih).1 z hz)
theorem twice_of_rise : ∀ (t : List Pst), t.Pairwise (fun x y => lessP x y = true) → twiceP t = false
  | [], _ => rfl
  | [x], _ => rfl
  | x :: y :: t, h => by
    rw [List.pairwise_cons] at h
    simp only [twiceP, Bool.or_eq_false_iff, decide_eq_false_iff_not]
    refine ⟨fun e => ?_, twice_of_rise (y :: t) h.2⟩
    have := h.1 y (by simp)
    rw [← orderP_neg, e] at this
    exact absurd this (by simp)
theorem rise_key {s : List Pst} (h : s.Pairwise (fun x y => lessP x y = true)) {a b : Pst} (ha : a ∈ s) (hb : b ∈ s) (e : a.p = b.p ∧ a.c = b.c) : a = b := by
  induction s with
  | nil => simp at ha
  | cons x s ih =>
    rw [List.pairwise_cons] at h
    have no : ∀ c ∈ s, ¬ (x.p = c.p ∧ x.c = c.c) := fun c hc hk => by
      have := h.1 c hc
      rw [lessP_iff, hk.1, hk.2, bl_irrefl] at this
      simp at this
    rcases List.mem_cons.1 ha with h1 | h1 <;> rcases List.mem_cons.1 hb with h2 | h2
    · rw [h1, h2]
    · rw [h1] at e; exact absurd e (no b h2)
    · rw [h2] at e; exact absurd ⟨e.1.symm, e.2.symm⟩ (no a h1)
    · exact ih h.2 h1 h2
/-- A sorted list of both's postings: the two as one, or some neighbours have the same key. -/
theorem sorted_merge {l m t : List Pst} (hl : okP l = true) (hm : okP m = true) (hp : t.Perm (l ++ m)) (hs : t.Pairwise (fun x y => lessP y x = false)) :
    mergeP (l.length + m.length) l m = if twiceP t = true then none else some t := by
  cases hk : mergeP (l.length + m.length) l m with
  | some s =>
    obtain ⟨k1, k2⟩ := mergeP_some _ l m s (Nat.le_refl _) hk (okP_lt hl) (okP_lt hm)
    have e := rise_unique s t (k1.trans hp.symm) k2 hs
    subst e
    rw [twice_of_rise s k2]; rfl
  | none =>
    obtain ⟨a, ha, b, hb, e⟩ := mergeP_none _ l m (Nat.le_refl _) hk
    cases ht : twiceP t with
    | true => rfl
    | false =>
      exfalso
      have hr := rise_of_sorted t hs ht
      have hrl : (l ++ m).Pairwise (fun x y => lessP x y = true ∨ lessP y x = true) := by
        refine hp.pairwise (hr.imp fun h => .inl h) fun h => h.symm
      have := (List.pairwise_append.1 hrl).2.2 a ha b hb
      rw [lessP_iff, lessP_iff, e.1, e.2, bl_irrefl] at this
      simp at this
end Go.Proofs.YtbilmkcdhodenaaDoor
