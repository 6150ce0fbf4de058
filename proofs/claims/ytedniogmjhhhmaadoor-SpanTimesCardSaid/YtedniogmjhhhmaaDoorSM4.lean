/-
  Chapter 02 (span): what two lists differ by turns the one into the other: plain Lean.
-/
import Derived.Test.YtedniogmjhhhmaaDoorSL1
set_option linter.all false
set_option linter.unusedSimpArgs false
set_option linter.unusedVariables false
namespace Go.Proofs.YtedniogmjhhhmaaDoor
open Go Go.Ev

theorem had_cases (l : List Row) (t : Int) : hadF l t = Val.none ∨ ∃ y ∈ l, holdsAt y t ∧ hadF l t = y.v := by
  induction l with
  | nil => exact .inl rfl
  | cons x r ih =>
    rw [had_cons]
    by_cases h : holdsAt x t
    · rw [if_pos h]; exact .inr ⟨x, by simp, h, rfl⟩
    · rw [if_neg h]
      rcases ih with e | ⟨y, h1, h2, h3⟩
      · exact .inl e
      · exact .inr ⟨y, by simp [h1], h2, h3⟩
theorem had_may {l : List Row} (h : right l = true) (t : Int) : mayV (hadF l t) = true := by
  rcases had_cases l t with e | ⟨y, h1, _, h3⟩
  · rw [e]; rfl
  · rw [h3]
    have := ((right_iff.1 h).2.2 y h1).2.2
    simp [mayV, this]
theorem had_in {l : List Row} (h : right l = true) {t : Int} (hne : hadF l t ≠ Val.none) : 0 ≤ t ∧ t < 1099511627776 := by
  rcases had_cases l t with e | ⟨y, h1, h2, _⟩
  · exact absurd e hne
  · have := (right_iff.1 h).2.2 y h1
    have h3 := h2.1; have h4 := h2.2; have h5 := this.1; have h6 := this.2.1
    omega
theorem tells_pieces {f g : Int → Val} (hf : ∀ t, mayV (f t) = true) (hg : ∀ t, mayV (g t) = true) (hin : ∀ t, f t ≠ g t → 0 ≤ t ∧ t < 1099511627776) : ∀ {l : List Piece} {c d e : Int}, tells f g c l d → e ≤ c → piecesG e l = true
  | [], _, _, _, _, _ => rfl
  | p :: r, c, d, e, h, he => by
    obtain ⟨h1, h2, h3, h4, h5, h6⟩ := h
    have ih := tells_pieces hf hg hin h6 (Int.le_refl p.b)
    obtain ⟨a1, a2⟩ := h5 p.a (Int.le_refl _) h2
    obtain ⟨b1, b2⟩ := h5 (p.b - 1) (by omega) (by omega)
    have ha := hin p.a (by rw [a1, a2]; exact h3)
    have hb := hin (p.b - 1) (by rw [b1, b2]; exact h3)
    have m1 : mayV p.h = true := by rw [← a1]; exact hf _
    have m2 : mayV p.w = true := by rw [← a2]; exact hg _
    have s1 : isSpan p.a p.b = true := by
      simp only [isSpan, Bool.and_eq_true, decide_eq_true_eq]; omega
    simp only [piecesG, s1, m1, m2, ih, Bool.true_and, Bool.and_true, Bool.and_eq_true, Bool.not_eq_true', decide_eq_false_iff_not]
    exact ⟨by omega, h3⟩
theorem tells_mem {f g : Int → Val} : ∀ {l : List Piece} {c d : Int}, tells f g c l d → ∀ p ∈ l, p.h ≠ p.w ∧ p.a < p.b ∧ ∀ t, p.a ≤ t → t < p.b → f t = p.h ∧ g t = p.w
  | [], _, _, _, p, hp => by simp at hp
  | q :: r, c, d, h, p, hp => by
    rcases List.mem_cons.1 hp with rfl | hp
    · exact ⟨h.2.2.1, h.2.1, h.2.2.2.2.1⟩
    · exact tells_mem h.2.2.2.2.2 p hp
theorem tells_hold {x y : List Row} (hx : right x = true) {l : List Piece} {c d : Int} (h : tells (hadF x) (hadF y) c l d) : allHold x l = true := by
  unfold allHold
  rw [List.all_eq_true]
  intro p hp
  unfold holdsC
  rw [List.all_eq_true]
  rintro ⟨q1, q2⟩ hq
  obtain ⟨_, hs⟩ := bnds_SS x [⟨p.a, p.b, p.h⟩]
  obtain ⟨k1, _⟩ := pairsOf_mem (bnds_SS x [⟨p.a, p.b, p.h⟩]).1 hq
  simp only
  by_cases g1 : p.a ≤ q1
  · by_cases g2 : q2 ≤ p.b
    · have := ((tells_mem h p hp).2.2 q1 g1 (by omega)).1
      rw [atR_had (right_okN hx), this]; simp
    · simp [g2]
  · simp [g1]
theorem tells_apply {f g : Int → Val} (hg : ∀ t, valOr (g t) = g t) : ∀ {l : List Piece} {c d : Int} {cur : List Row}, tells f g c l d → okN none cur → (∀ t, hadF cur t = if t < c then g t else f t) → okN none (applyG cur l) ∧ ∀ t, hadF (applyG cur l) t = if t < d then g t else f t
  | [], c, d, cur, h, ho, hc => ⟨ho, fun t => by
      rw [applyG, hc t]
      by_cases k1 : t < c
      · rw [if_pos k1, if_pos (by have := h.1; omega)]
      · rw [if_neg k1]
        by_cases k2 : t < d
        · rw [if_pos k2]; exact h.2 t (by omega) k2
        · rw [if_neg k2]⟩
  | p :: r, c, d, cur, h, ho, hc => by
    obtain ⟨h1, h2, h3, h4, h5, h6⟩ := h
    obtain ⟨o1, o2, _⟩ := overR_sem ho h2 p.w
    show okN none (applyG (overR cur p.a p.b p.w) r) ∧ ∀ t, hadF (applyG (overR cur p.a p.b p.w) r) t = _
    refine tells_apply (cur := overR cur p.a p.b p.w) hg h6 o1 fun t => ?_
    rw [o2 t, hc t]
    by_cases k1 : p.a ≤ t ∧ t < p.b
    · rw [if_pos k1, if_pos k1.2]
      have := (h5 t k1.1 k1.2).2
      rw [← this, hg]
    · rw [if_neg k1]
      by_cases k2 : t < c
      · rw [if_pos k2, if_pos (by omega)]
      · rw [if_neg k2]
        by_cases k3 : t < p.b
        · rw [if_pos k3]; exact h4 t (by omega) (by omega)
        · rw [if_neg k3]
theorem diff_turns {x y : List Row} (hx : right x = true) (hy : right y = true) : applyR x (diffR x y) = y ∧ applyE x (diffR x y) = 0 := by
  obtain ⟨c, d, h, hn⟩ := diff_tells hx hy
  have hin : ∀ t, hadF x t ≠ hadF y t → 0 ≤ t ∧ t < 1099511627776 := fun t ht => by
    by_cases k : hadF x t = Val.none
    · exact had_in hy (fun e => ht (by rw [k, e]))
    · exact had_in hx k
  have hp : piecesG 0 (diffR x y) = true := by
    -- from the first piece on, or from below 0
    have key : ∀ {l : List Piece} {c : Int}, tells (hadF x) (hadF y) c l d → piecesG 0 l = true := by
      intro l c h
      cases l with
      | nil => rfl
      | cons p r =>
        have h' : tells (hadF x) (hadF y) p.a (p :: r) d := ⟨Int.le_refl _, h.2.1, h.2.2.1, fun t h1 h2 => by omega, h.2.2.2.2.1, h.2.2.2.2.2⟩
        obtain ⟨a1, a2⟩ := h.2.2.2.2.1 p.a (Int.le_refl _) h.2.1
        exact tells_pieces (had_may hx) (had_may hy) hin h' (hin p.a (by rw [a1, a2]; exact h.2.2.1)).1
    exact key h
  obtain ⟨o1, o2⟩ := tells_apply (had_valOr (right_okN hy)) h (right_okN hx) fun t => by
    by_cases k : t < c
    · rw [if_pos k, (hn t (.inl k)).1, (hn t (.inl k)).2]
    · rw [if_neg k]
  have e : applyG x (diffR x y) = y := okN_ext o1 (right_okN hy) fun t => by
    rw [o2 t]
    by_cases k : t < d
    · rw [if_pos k]
    · rw [if_neg k, (hn t (.inr (by omega))).1, (hn t (.inr (by omega))).2]
  have hl := right_len hy
  unfold applyR applyE
  have h1 : right x = true ∧ piecesG 0 (diffR x y) = true := ⟨hx, hp⟩
  simp only [if_pos h1, if_pos (tells_hold hx h), e]
  exact ⟨by unfold fewR; rw [if_pos hl], by unfold fewE; rw [if_pos hl]⟩
def swapP (p : Piece) : Piece := ⟨p.a, p.b, p.w, p.h⟩
theorem addP_swap (acc : List Piece) (p : Piece) : addP (acc.map swapP) (swapP p) = (addP acc p).map swapP := by
  unfold addP
  by_cases h : p.h = p.w
  · rw [if_pos h, if_pos (show (swapP p).h = (swapP p).w from h.symm)]
  · rw [if_neg h, if_neg (show ¬ (swapP p).h = (swapP p).w from fun e => h e.symm), List.getLast?_map]
    cases hl : acc.getLast? with
    | none => rfl
    | some w =>
      simp only [Option.map_some]
      by_cases h2 : w.b = p.a ∧ w.h = p.h ∧ w.w = p.w
      · rw [if_pos h2, if_pos (show (swapP w).b = (swapP p).a ∧ (swapP w).h = (swapP p).h ∧ (swapP w).w = (swapP p).w from ⟨h2.1, h2.2.2, h2.2.1⟩), List.map_set, List.length_map]
        rfl
      · rw [if_neg h2, if_neg (show ¬ ((swapP w).b = (swapP p).a ∧ (swapP w).h = (swapP p).h ∧ (swapP w).w = (swapP p).w) from fun e => h2 ⟨e.1, e.2.2, e.2.1⟩)]
        simp
theorem diffG_swap (f g : Int → Val) : ∀ (ps : List (Int × Int)) (acc : List Piece), diffG g f ps (acc.map swapP) = (diffG f g ps acc).map swapP
  | [], acc => rfl
  | q :: r, acc => by
    rw [diffG, diffG]
    have := addP_swap acc ⟨q.1, q.2, f q.1, g q.1⟩
    rw [show (⟨q.1, q.2, g q.1, f q.1⟩ : Piece) = swapP ⟨q.1, q.2, f q.1, g q.1⟩ from rfl, this, diffG_swap f g r]
theorem bnds_comm (x y : List Row) : bnds x y = bnds y x := by
  obtain ⟨h1, h2⟩ := bnds_SS x y
  obtain ⟨g1, g2⟩ := bnds_SS y x
  exact SS_ext h1 g1 fun t => by rw [h2, g2]; exact Or.comm
theorem diff_swap (x y : List Row) : diffR y x = (diffR x y).map swapP := by
  unfold diffR
  by_cases h : right x = true ∧ right y = true
  · rw [if_pos h, if_pos h.symm, bnds_comm y x]
    exact diffG_swap (atR x) (atR y) (pairsOf (bnds x y)) []
  · rw [if_neg h, if_neg (fun e => h e.symm)]; rfl
theorem diff_nil {x y : List Row} (hx : right x = true) (hy : right y = true) : diffR x y = [] ↔ x = y := by
  obtain ⟨c, d, h, hn⟩ := diff_tells hx hy
  constructor
  · intro e
    rw [e] at h
    refine okN_ext (right_okN hx) (right_okN hy) fun t => ?_
    by_cases k : t < c ∨ d ≤ t
    · rw [(hn t k).1, (hn t k).2]
    · exact h.2 t (by omega) (by omega)
  · intro e
    subst e
    cases hd : diffR x x with
    | nil => rfl
    | cons p r =>
      rw [hd] at h
      obtain ⟨a1, a2⟩ := h.2.2.2.2.1 p.a (Int.le_refl _) h.2.1
      exact absurd (a1.symm.trans a2) h.2.2.1
theorem eq_of_times {x y : List Row} (hx : okN none x) (hy : okN none y) (h : ∀ c, c ∈ timesOf x ∨ c ∈ timesOf y → hadF x c = hadF y c) : x = y := by
  obtain ⟨s1, s2⟩ := bnds_SS x y
  have mx : ∀ z ∈ x, z.a ∈ bnds x y ∧ z.b ∈ bnds x y := fun z hz => by rw [s2, s2]; exact ⟨.inl (times_mem hz).1, .inl (times_mem hz).2⟩
  have my : ∀ z ∈ y, z.a ∈ bnds x y ∧ z.b ∈ bnds x y := fun z hz => by rw [s2, s2]; exact ⟨.inr (times_mem hz).1, .inr (times_mem hz).2⟩
  have h : ∀ c ∈ bnds x y, hadF x c = hadF y c := fun c hc => h c ((s2 c).1 hc)
  generalize bnds x y = bs at *
  refine okN_ext hx hy fun t => ?_
  cases hf : (pairsOf bs).find? (fun p => decide (p.1 ≤ t ∧ t < p.2)) with
  | none =>
    have nof : ∀ {l : List Row}, (∀ z ∈ l, z.a ∈ bs ∧ z.b ∈ bs) → hadF l t = Val.none := fun hl => had_none fun z hz hk => by
      obtain ⟨p, hp⟩ := find_pair s1 (hl z hz).1 hk.1 (hl z hz).2 hk.2
      rw [hf] at hp; cases hp
    rw [nof mx, nof my]
  | some p =>
    obtain ⟨p, q⟩ := p
    have hin := List.find?_some hf
    simp only [decide_eq_true_eq] at hin
    have hm := List.mem_of_find?_eq_some hf
    rw [had_pair s1 mx hm hin.1 hin.2, had_pair s1 my hm hin.1 hin.2]
    exact h p (pairsOf_mem s1 hm).2.1
end Go.Proofs.YtedniogmjhhhmaaDoor
