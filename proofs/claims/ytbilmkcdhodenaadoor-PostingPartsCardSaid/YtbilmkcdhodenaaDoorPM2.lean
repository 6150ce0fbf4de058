/-
  Chapter 13 (posting), plain: what is found by halves.
-/
import Derived.Test.YtbilmkcdhodenaaDoorPM1
set_option linter.all false
set_option linter.unusedSimpArgs false
set_option linter.unusedVariables false
namespace Go.Proofs.YtbilmkcdhodenaaDoor
open Go Go.Ev

/-! ## halves -/
theorem bsP_end (f : List UInt8 → Bool) (l : List Pst) (n : Nat) {lo hi : Nat} (h : ¬ lo < hi) : bsP f l n lo hi = lo := by
  cases n with
  | zero => rfl
  | succ n => simp only [bsP, if_neg h]
theorem bsP_fuel (f : List UInt8 → Bool) (l : List Pst) : ∀ (n m lo hi : Nat), hi - lo ≤ n → hi - lo ≤ m → bsP f l n lo hi = bsP f l m lo hi
  | 0, m, lo, hi, h1, h2 => by rw [bsP_end f l 0 (by omega), bsP_end f l m (by omega)]
  | n + 1, 0, lo, hi, h1, h2 => by rw [bsP_end f l 0 (by omega), bsP_end f l (n + 1) (by omega)]
  | n + 1, m + 1, lo, hi, h1, h2 => by
    simp only [bsP]
    split
    · split
      · exact bsP_fuel f l n m _ _ (by omega) (by omega)
      · exact bsP_fuel f l n m _ _ (by omega) (by omega)
    · rfl
theorem bsP_le (f : List UInt8 → Bool) (l : List Pst) : ∀ (n lo hi : Nat), lo ≤ hi → hi ≤ l.length → lo ≤ bsP f l n lo hi ∧ bsP f l n lo hi ≤ hi
  | 0, lo, hi, h, _ => ⟨Nat.le_refl _, h⟩
  | n + 1, lo, hi, h, h2 => by
    simp only [bsP]
    split
    · split
      · have := bsP_le f l n ((lo + hi) / 2 + 1) hi (by omega) h2; omega
      · have := bsP_le f l n lo ((lo + hi) / 2) (by omega) (by omega); omega
    · omega
theorem bsO_le (f : List UInt8 → Bool) (l : List Pst) : bsO f l ≤ l.length := (bsP_le f l _ 0 _ (Nat.zero_le _) (Nat.le_refl _)).2
/-- f holds of some first ones. -/
def Down (f : List UInt8 → Bool) (l : List Pst) : Prop := ∀ i j, i ≤ j → j < l.length → f (l.getD j default).p = true → f (l.getD i default).p = true
theorem bsP_find (f : List UInt8 → Bool) (l : List Pst) (hs : Down f l) : ∀ (n lo hi : Nat), lo ≤ hi → hi ≤ l.length → hi - lo ≤ n → (∀ i, i < lo → f (l.getD i default).p = true) → (∀ i, hi ≤ i → i < l.length → f (l.getD i default).p = false) →
    (∀ i, i < bsP f l n lo hi → f (l.getD i default).p = true) ∧ (∀ i, bsP f l n lo hi ≤ i → i < l.length → f (l.getD i default).p = false)
  | 0, lo, hi, h, _, h3, h4, h5 => by
    obtain rfl : lo = hi := by omega
    exact ⟨h4, h5⟩
  | n + 1, lo, hi, h, h2, h3, h4, h5 => by
    simp only [bsP]
    split
    · rename_i hlt
      split
      · rename_i hb
        exact bsP_find f l hs n ((lo + hi) / 2 + 1) hi (by omega) h2 (by omega) (fun i hi' => hs i _ (by omega) (by omega) hb) h5
      · rename_i hb
        refine bsP_find f l hs n lo ((lo + hi) / 2) (by omega) (by omega) (by omega) h4 (fun i h6 h7 => ?_)
        cases hf : f (l.getD i default).p with
        | false => rfl
        | true => exact absurd (hs _ i h6 h7 hf) hb
    · obtain rfl : lo = hi := by omega
      exact ⟨h4, h5⟩
theorem bsO_find (f : List UInt8 → Bool) (l : List Pst) (hs : Down f l) : (∀ i, i < bsO f l → f (l.getD i default).p = true) ∧ (∀ i, bsO f l ≤ i → i < l.length → f (l.getD i default).p = false) :=
  bsP_find f l hs _ 0 _ (Nat.zero_le _) (Nat.le_refl _) (by omega) (fun i h => by omega) (fun i h h2 => by omega)
/-- The places from a on, up to b: those of which P holds. -/
theorem cut_filter {α : Type} [Inhabited α] (P : α → Bool) : ∀ (l : List α) (a b : Nat), a ≤ b → b ≤ l.length → (∀ i, i < a → P (l.getD i default) = false) → (∀ i, a ≤ i → i < b → P (l.getD i default) = true) → (∀ i, b ≤ i → i < l.length → P (l.getD i default) = false) →
    (l.take b).drop a = l.filter P
  | [], a, b, _, _, _, _, _ => by simp
  | x :: l, 0, 0, _, _, _, _, h3 => by
    have h := h3 0 (by omega) (by simp)
    have ih := cut_filter P l 0 0 (by omega) (by omega) (fun i hi => by omega) (fun i hi h => by omega) (fun i hi h => by have := h3 (i + 1) (by omega) (by simpa using h); simpa using this)
    simp only [List.getD_cons_zero] at h
    rw [List.filter_cons_of_neg (by simp [h])]
    simpa using ih
  | x :: l, 0, b + 1, _, hb, _, h2, h3 => by
    have h := h2 0 (by omega) (by omega)
    have ih := cut_filter P l 0 b (by omega) (by simpa using hb) (fun i hi => by omega) (fun i hi h => by have := h2 (i + 1) (by omega) (by omega); simpa using this) (fun i hi h => by have := h3 (i + 1) (by omega) (by simpa using h); simpa using this)
    simp only [List.getD_cons_zero] at h
    rw [List.filter_cons_of_pos h, ← ih]
    simp
  | x :: l, a + 1, 0, hab, _, _, _, _ => by omega
  | x :: l, a + 1, b + 1, hab, hb, h1, h2, h3 => by
    have h := h1 0 (by omega)
    have ih := cut_filter P l a b (by omega) (by simpa using hb) (fun i hi => by have := h1 (i + 1) (by omega); simpa using this) (fun i hi h => by have := h2 (i + 1) (by omega) (by omega); simpa using this) (fun i hi h => by have := h3 (i + 1) (by omega) (by simpa using h); simpa using this)
    simp only [List.getD_cons_zero] at h
    rw [List.filter_cons_of_neg (by simp [h]), ← ih]
    simp
theorem rise_le {l : List Pst} (h : l.Pairwise (fun x y => lessP x y = true)) {i j : Nat} (hij : i ≤ j) (hj : j < l.length) : Op.bytesLess (l.getD j default).p (l.getD i default).p = false := by
  rcases Nat.lt_or_ge i j with hlt | hge
  · have := List.pairwise_iff_getElem.1 h i j (by omega) hj hlt
    rw [List.getD_eq_getElem?_getD, List.getD_eq_getElem?_getD, List.getElem?_eq_getElem hj, List.getElem?_eq_getElem (show i < l.length by omega)]
    simp only [Option.getD_some]
    rw [lessP_iff] at this
    rcases this with h1 | h1
    · exact bl_asymm h1
    · rw [h1.1]; exact bl_irrefl _
  · obtain rfl : i = j := by omega
    exact bl_irrefl _
theorem within_filter {l : List Pst} (hl : okP l = true) (f g P : List UInt8 → Bool) (hf : Down f l) (hF : Down (fun p => f p || g p) l) (hP : ∀ p, P p = ((f p || g p) && !f p)) : withinP l f g = l.filter fun x => P x.p := by
  unfold withinP
  rw [if_pos hl]
  obtain ⟨a1, a2⟩ := bsO_find f l hf
  obtain ⟨b1, b2⟩ := bsO_find _ l hF
  have hab : bsO f l ≤ bsO (fun p => f p || g p) l := by
    rcases Nat.lt_or_ge (bsO (fun p => f p || g p) l) (bsO f l) with h | h
    · have h1 := a1 _ h
      have h2 := b2 _ (Nat.le_refl _) (Nat.lt_of_lt_of_le h (bsO_le _ _))
      rw [h1] at h2
      exact absurd h2 (by simp)
    · exact h
  refine cut_filter (fun x => P x.p) l _ _ hab (bsO_le _ _) (fun i hi => ?_) (fun i hi hi2 => ?_) (fun i hi hi2 => ?_)
  · rw [hP, a1 i hi]; simp
  · have h1 := a2 i hi (Nat.lt_of_lt_of_le hi2 (bsO_le _ _))
    have h2 := b1 i hi2
    rw [hP, h2, h1]; rfl
  · rw [hP, b2 i hi hi2]; rfl
theorem from_le_to {l : List Pst} (f g : List UInt8 → Bool) (hf : Down f l) (hF : Down (fun p => f p || g p) l) : bsO f l ≤ bsO (fun p => f p || g p) l := by
  obtain ⟨a1, a2⟩ := bsO_find f l hf
  obtain ⟨b1, b2⟩ := bsO_find _ l hF
  rcases Nat.lt_or_ge (bsO (fun p => f p || g p) l) (bsO f l) with h | h
  · have h1 := a1 _ h
    have h2 := b2 _ (Nat.le_refl _) (Nat.lt_of_lt_of_le h (bsO_le _ _))
    rw [h1] at h2
    exact absurd h2 (by simp)
  · exact h
/-- Not behind one that is ahead: ahead. -/
theorem bl_le_lt {x y z : List UInt8} (h : Op.bytesLess y x = false) (k : Op.bytesLess y z = true) : Op.bytesLess x z = true := by
  cases hx : Op.bytesLess x y with
  | true => exact bl_trans hx k
  | false => rw [bl_total x y hx h]; exact k
theorem down_lt {l : List Pst} (hl : okP l = true) (q : List UInt8) : Down (fun p => Op.bytesLess p q) l := fun i j hij hj h => bl_le_lt (rise_le (okP_lt hl) hij hj) h
theorem begins_iff {s p : List UInt8} : begins s p = true ↔ ∃ t, s = p ++ t := by
  simp only [begins, Bool.and_eq_true, decide_eq_true_eq]
  constructor
  · rintro ⟨h1, h2⟩
    exact ⟨s.drop p.length, by conv => lhs; rw [← List.take_append_drop p.length s, h2]⟩
  · rintro ⟨t, rfl⟩
    simp
theorem begins_nlt {s p : List UInt8} (h : begins s p = true) : Op.bytesLess s p = false := by
  obtain ⟨t, rfl⟩ := begins_iff.1 h
  clear h
  induction p with
  | nil => cases t <;> rfl
  | cons a p ih => simp [Op.bytesLess, ih]
theorem begins_down : ∀ (p x y : List UInt8), Op.bytesLess y x = false → begins y p = true → Op.bytesLess x p = true ∨ begins x p = true
  | [], x, y, _, _ => .inr (begins_iff.2 ⟨x, rfl⟩)
  | a :: p, [], y, _, _ => .inl rfl
  | a :: p, c :: x, y, h, k => by
    obtain ⟨t, rfl⟩ := begins_iff.1 k
    simp only [List.cons_append, Op.bytesLess, Bool.or_eq_false_iff, decide_eq_false_iff_not, Bool.and_eq_false_iff, beq_eq_false_iff_ne] at h
    by_cases e : a = c
    · subst e
      rcases h.2 with h2 | h2
      · exact absurd rfl h2
      · rcases begins_down p x (p ++ t) h2 (begins_iff.2 ⟨t, rfl⟩) with h3 | h3
        · left; simp [Op.bytesLess, h3]
        · right
          obtain ⟨s, rfl⟩ := begins_iff.1 h3
          exact begins_iff.2 ⟨s, rfl⟩
    · left
      have : c < a := by
        have h1 := h.1
        rw [UInt8.lt_iff_toNat_lt] at h1 ⊢
        have : a.toNat ≠ c.toNat := fun hh => e (UInt8.toNat_inj.1 hh)
        omega
      simp [Op.bytesLess, this]
theorem down_begins {l : List Pst} (hl : okP l = true) (q : List UInt8) : Down (fun p => Op.bytesLess p q || begins p q) l := fun i j hij hj h => by
  have hle := rise_le (okP_lt hl) hij hj
  simp only [Bool.or_eq_true] at h ⊢
  rcases h with h | h
  · exact .inl (bl_le_lt hle h)
  · exact begins_down q _ _ hle h
theorem down_eq {l : List Pst} (hl : okP l = true) (q : List UInt8) : Down (fun p => Op.bytesLess p q || decide (p = q)) l := fun i j hij hj h => by
  have hle := rise_le (okP_lt hl) hij hj
  simp only [Bool.or_eq_true, decide_eq_true_eq] at h ⊢
  rcases h with h | h
  · exact .inl (bl_le_lt hle h)
  · rw [h] at hle
    cases hx : Op.bytesLess (l.getD i default).p q with
    | true => exact .inl rfl
    | false => exact .inr (bl_total _ _ hx hle)
theorem probe_within (l : List Pst) (q : List UInt8) : withinP l (fun p => Op.bytesLess p q) (fun p => decide (p = q)) = probeP l q := by
  unfold probeP
  split
  · rename_i hl
    refine within_filter hl _ _ (fun p => decide (p = q)) (down_lt hl q) (down_eq hl q) fun p => ?_
    by_cases h : p = q
    · subst h; simp [bl_irrefl]
    · simp [h]
  · rename_i hl
    unfold withinP
    rw [if_neg hl]
theorem under_within (l : List Pst) (q : List UInt8) : withinP l (fun p => Op.bytesLess p q) (fun p => begins p q) = underP l q := by
  unfold underP
  split
  · rename_i hl
    refine within_filter hl _ _ (fun p => begins p q) (down_lt hl q) (down_begins hl q) fun p => ?_
    cases h : begins p q with
    | true => simp [begins_nlt h]
    | false => simp
  · rename_i hl
    unfold withinP
    rw [if_neg hl]
end Go.Proofs.YtbilmkcdhodenaaDoor
