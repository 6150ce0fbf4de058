/-
  Chapter 02 (span): rows as what is had at each time: plain Lean.
-/
import Derived.Test.YtedniogmjhhhmaaDoorSP12
set_option linter.all false
set_option linter.unusedSimpArgs false
set_option linter.unusedVariables false
namespace Go.Proofs.YtedniogmjhhhmaaDoor
open Go Go.Ev

/-- In normal form: spans that rise, with a value each, no two that touch with the same. -/
def okN : Option Row → List Row → Prop
  | _, [] => True
  | q, x :: r => x.a < x.b ∧ x.v.k ≠ 0 ∧ (∀ w, q = some w → w.b ≤ x.a ∧ ¬ (w.b = x.a ∧ w.v = x.v)) ∧ okN (some x) r
def holdsAt (x : Row) (t : Int) : Prop := x.a ≤ t ∧ t < x.b
instance (x : Row) (t : Int) : Decidable (holdsAt x t) := by unfold holdsAt; infer_instance
theorem had_cons (x : Row) (l : List Row) (t : Int) : hadF (x :: l) t = if holdsAt x t then x.v else hadF l t := rfl
theorem had_none {l : List Row} {t : Int} (h : ∀ y ∈ l, ¬ holdsAt y t) : hadF l t = Val.none := by
  induction l with
  | nil => rfl
  | cons x r ih =>
    rw [had_cons, if_neg (h x (by simp)), ih fun y hy => h y (by simp [hy])]
theorem had_app_none {l m : List Row} {t : Int} (h : ∀ y ∈ l, ¬ holdsAt y t) : hadF (l ++ m) t = hadF m t := by
  induction l with
  | nil => rfl
  | cons x r ih =>
    rw [List.cons_append, had_cons, if_neg (h x (by simp)), ih fun y hy => h y (by simp [hy])]
theorem had_app_none' {l m : List Row} {t : Int} (h : ∀ y ∈ m, ¬ holdsAt y t) : hadF (l ++ m) t = hadF l t := by
  induction l with
  | nil => rw [List.nil_append, had_none h]; rfl
  | cons x r ih => rw [List.cons_append, had_cons, had_cons, ih]
theorem okN_tail {q : Option Row} {x : Row} {r : List Row} (h : okN q (x :: r)) : okN (some x) r := h.2.2.2
theorem okN_none {q : Option Row} {l : List Row} (h : okN q l) : okN none l := by
  cases l with
  | nil => trivial
  | cons x r => exact ⟨h.1, h.2.1, fun w hw => (by cases hw), h.2.2.2⟩
theorem okN_from : ∀ {l : List Row} {w : Row}, okN (some w) l → ∀ y ∈ l, w.b ≤ y.a
  | [], _, _, y, hy => by simp at hy
  | x :: r, w, h, y, hy => by
    obtain ⟨h1, h2, h3, h4⟩ := h
    have h5 := (h3 w rfl).1
    rcases List.mem_cons.1 hy with rfl | hy
    · exact h5
    · have := okN_from h4 y hy; omega
theorem okN_mem : ∀ {l : List Row} {q : Option Row}, okN q l → ∀ y ∈ l, y.a < y.b ∧ y.v.k ≠ 0
  | [], _, _, y, hy => by simp at hy
  | x :: r, q, h, y, hy => by
    rcases List.mem_cons.1 hy with rfl | hy
    · exact ⟨h.1, h.2.1⟩
    · exact okN_mem h.2.2.2 y hy
/-- A row behind others. -/
theorem okN_snoc {x : Row} (h1 : x.a < x.b) (h2 : x.v.k ≠ 0) : ∀ {l : List Row} {q : Option Row}, okN q l → (∀ w, l.getLast? = some w → w.b ≤ x.a ∧ ¬ (w.b = x.a ∧ w.v = x.v)) → (l = [] → ∀ w, q = some w → w.b ≤ x.a ∧ ¬ (w.b = x.a ∧ w.v = x.v)) → okN q (l ++ [x])
  | [], q, _, _, h4 => ⟨h1, h2, h4 rfl, trivial⟩
  | y :: r, q, h, h3, _ => by
    refine ⟨h.1, h.2.1, h.2.2.1, okN_snoc h1 h2 h.2.2.2 (fun w hw => ?_) (fun hr w hw => ?_)⟩
    · exact h3 w (by cases r with | nil => simp at hw | cons z s => simpa [List.getLast?_cons_cons] using hw)
    · subst hr
      simp only [Option.some.injEq] at hw
      subst hw
      exact h3 _ rfl
theorem okN_last : ∀ {l : List Row} {q : Option Row} {w : Row} {c : Int}, okN q (l ++ [w]) → w.b ≤ c → okN q (l ++ [{ w with b := c }])
  | [], q, w, c, h, hc => ⟨by have := h.1; show w.a < c; omega, h.2.1, h.2.2.1, trivial⟩
  | y :: r, q, w, c, h, hc => by
    refine ⟨h.1, h.2.1, h.2.2.1, ?_⟩
    exact okN_last h.2.2.2 hc
theorem okN_ends {l : List Row} {q : Option Row} (h : okN q l) {w : Row} (hw : l.getLast? = some w) : ∀ y ∈ l, y.b ≤ w.b := by
  induction l generalizing q with
  | nil => simp at hw
  | cons x r ih =>
    intro y hy
    cases r with
    | nil =>
      simp at hw hy
      subst hw; subst hy; omega
    | cons z s =>
      rw [List.getLast?_cons_cons] at hw
      rcases List.mem_cons.1 hy with rfl | hy
      · have h1 := (h.2.2.2.2.2.1 y rfl).1
        have h2 := ih h.2.2.2 hw z (by simp)
        have h3 := h.2.2.2.1
        omega
      · exact ih h.2.2.2 hw y hy
theorem addR_nop {l : List Row} {x : Row} (h : x.b ≤ x.a) : addR l x = l := by unfold addR; rw [if_pos h]
/-- What add comes to. -/
theorem addR_sem {l : List Row} {x : Row} (h : okN none l) (he : ∀ y ∈ l, y.b ≤ x.a) :
    okN none (addR l x) ∧ (∀ t, hadF (addR l x) t = if x.a ≤ t ∧ t < x.b ∧ x.v.k ≠ 0 then x.v else hadF l t) ∧ (∀ y ∈ addR l x, y.b ≤ max x.a x.b) ∧ (x.a < x.b → ∀ y ∈ addR l x, y.b ≤ x.b) ∧ (x.b ≤ x.a → addR l x = l) := by
  by_cases h1 : x.b ≤ x.a
  · have e : addR l x = l := by simp [addR, h1]
    rw [e]
    refine ⟨h, fun t => ?_, fun y hy => by have := he y hy; omega, fun h2 => by omega, fun _ => rfl⟩
    rw [if_neg (by omega)]
  · by_cases h2 : x.v.k = 0
    · have e : addR l x = l := by simp [addR, h2]
      rw [e]
      refine ⟨h, fun t => ?_, fun y hy => by have := he y hy; omega, fun h2 y hy => by have := he y hy; omega, fun _ => rfl⟩
      rw [if_neg (fun hc => hc.2.2 h2)]
    · have hab : x.a < x.b := by omega
      rcases List.eq_nil_or_concat l with rfl | ⟨m, w, rfl⟩
      · have e : addR [] x = [x] := by simp [addR, h1, h2]
        rw [e]
        refine ⟨⟨hab, h2, fun w hw => (by cases hw), trivial⟩, fun t => ?_, fun y hy => (by simp at hy; subst hy; omega), fun _ y hy => (by simp at hy; subst hy; omega), fun hc => absurd hc h1⟩
        rw [had_cons]
        by_cases ht : holdsAt x t
        · rw [if_pos ht, if_pos ⟨ht.1, ht.2, h2⟩]
        · rw [if_neg ht, if_neg (fun hc => ht ⟨hc.1, hc.2.1⟩)]
      · rw [List.concat_eq_append] at *
        have hwb : w.b ≤ x.a := he w (by simp)
        by_cases h3 : w.b = x.a ∧ w.v = x.v
        · have e : addR (m ++ [w]) x = m ++ [{ w with b := x.b }] := by
            simp only [addR, if_neg h1, if_neg h2, List.getLast?_append, List.getLast?_singleton, Option.some_or, if_pos h3]
            simp
          rw [e]
          have hm : ∀ y ∈ m, y.b ≤ w.a := by
            intro y hy
            have : ∀ (m : List Row) (q : Option Row), okN q (m ++ [w]) → ∀ y ∈ m, y.b ≤ w.a := by
              intro m
              induction m with
              | nil => intro q _ y hy; simp at hy
              | cons z s ih =>
                intro q hq y hy
                rcases List.mem_cons.1 hy with rfl | hy
                · exact okN_from hq.2.2.2 w (by simp)
                · exact ih _ hq.2.2.2 y hy
            exact this m none h y hy
          refine ⟨okN_last h (by omega), fun t => ?_, fun y hy => ?_, fun _ y hy => ?_, fun hc => absurd hc h1⟩
          · have hwa := (okN_mem h w (by simp)).1
            by_cases ht : x.a ≤ t ∧ t < x.b
            · rw [if_pos ⟨ht.1, ht.2, h2⟩, had_app_none (fun y hy hc => by have := hm y hy; have := hc.2; omega), had_cons, if_pos]
              · exact h3.2
              · exact ⟨by show w.a ≤ t; omega, ht.2⟩
            · rw [if_neg (fun hc => ht ⟨hc.1, hc.2.1⟩)]
              by_cases hwt : holdsAt w t
              · have hwt2 : holdsAt { w with b := x.b } t := ⟨hwt.1, by show t < x.b; have := hwt.2; omega⟩
                rw [had_app_none (fun y hy hc => by have := hm y hy; have := hc.2; have := hwt.1; omega), had_cons, if_pos hwt2, had_app_none (fun y hy hc => by have := hm y hy; have := hc.2; have := hwt.1; omega), had_cons, if_pos hwt]
              · have hwt2 : ¬ holdsAt { w with b := x.b } t := fun hc => by
                  have h5 : w.a ≤ t := hc.1
                  have h6 : t < x.b := hc.2
                  by_cases h7 : t < w.b
                  · exact hwt ⟨h5, h7⟩
                  · exact ht ⟨by omega, h6⟩
                rw [had_app_none' (by simpa using hwt2), had_app_none' (by simpa using hwt)]
          · rcases List.mem_append.1 hy with hy | hy
            · have := he y (by simp [hy]); omega
            · simp at hy; subst hy; show x.b ≤ _; omega
          · rcases List.mem_append.1 hy with hy | hy
            · have := he y (by simp [hy]); omega
            · simp at hy; subst hy; show x.b ≤ _; omega
        · have e : addR (m ++ [w]) x = (m ++ [w]) ++ [x] := by
            simp only [addR, if_neg h1, if_neg h2, List.getLast?_append, List.getLast?_singleton, Option.some_or, if_neg h3]
          rw [e]
          refine ⟨okN_snoc hab h2 h (fun w' hw' => ?_) (fun hc => by simp at hc), fun t => ?_, fun y hy => ?_, fun _ y hy => ?_, fun hc => absurd hc h1⟩
          · simp at hw'; subst hw'; exact ⟨hwb, h3⟩
          · by_cases ht : holdsAt x t
            · rw [if_pos ⟨ht.1, ht.2, h2⟩, had_app_none (fun y hy hc => by have := he y hy; have := hc.2; have := ht.1; omega), had_cons, if_pos ht]
            · rw [if_neg (fun hc => ht ⟨hc.1, hc.2.1⟩), had_app_none' (by simpa using ht)]
          · rcases List.mem_append.1 hy with hy | hy
            · have := he y hy; omega
            · simp at hy; subst hy; omega
          · rcases List.mem_append.1 hy with hy | hy
            · have := he y hy; omega
            · simp at hy; subst hy; omega
/-- The same of the reference's. -/
theorem addS_eq {l : List Row} {x : Row} (h : x.a < x.b) : addS l x = addR l x := by
  unfold addS addR
  rw [if_neg (show ¬ x.b ≤ x.a by omega)]
  by_cases h2 : x.v.k = 0
  · rw [if_pos h2, if_pos h2]
  · rw [if_neg h2, if_neg h2]
    cases l.getLast? <;> rfl

/-! ## put over a span -/
def valOr (v : Val) : Val := if v.k = 0 then Val.none else v
theorem overG_sem (a b : Int) (v : Val) (hab : a < b) : ∀ (r out : List Row) (put : Bool) (c : Int), okN none out → okN none r → (∀ y ∈ r, c ≤ y.a) → (put = false → c ≤ a ∧ ∀ y ∈ out, y.b ≤ c) → (put = true → a < c ∧ ∀ y ∈ out, y.b ≤ max c b) →
    okN none (overG a b v r out put) ∧ (∀ t, hadF (overG a b v r out put) t = if put = true then (if t < max c b then hadF out t else hadF r t) else (if t < c then hadF out t else if a ≤ t ∧ t < b then valOr v else hadF r t)) ∧ (overG a b v r out put).length ≤ out.length + r.length + (cond put 0 2) := by
  intro r
  induction r with
  | nil =>
    intro out put c ho hr hc hf ht
    cases put with
    | true =>
      obtain ⟨h1, h2⟩ := ht rfl
      simp only [overG, if_true]
      refine ⟨ho, fun t => ?_, by simp⟩
      split
      · rfl
      · rw [had_none]
        · rfl
        · intro y hy hc; have := h2 y hy; have := hc.2; omega
    | false =>
      obtain ⟨h1, h2⟩ := hf rfl
      simp only [overG, Bool.false_eq_true, if_false]
      obtain ⟨g1, g2, g3, _⟩ := addR_sem (x := ⟨a, b, v⟩) ho (fun y hy => by have := h2 y hy; show y.b ≤ a; omega)
      refine ⟨g1, fun t => ?_, ?_⟩
      · rw [g2 t]
        simp only
        by_cases k1 : t < c
        · rw [if_pos k1, if_neg (by omega)]
        · rw [if_neg k1]
          have hn : hadF out t = Val.none := had_none fun y hy hc => by have := h2 y hy; have := hc.2; omega
          by_cases k2 : a ≤ t ∧ t < b
          · rw [if_pos k2]
            unfold valOr
            by_cases k3 : v.k = 0
            · rw [if_neg (fun hc => hc.2.2 k3), if_pos k3, hn]
            · rw [if_pos ⟨k2.1, k2.2, k3⟩, if_neg k3]
          · rw [if_neg k2, if_neg (fun hc => k2 ⟨hc.1, hc.2.1⟩), hn]; rfl
      · have := addR_len out ⟨a, b, v⟩
        simp only [List.length_nil, cond_false]; omega
  | cons x r ih =>
    intro out put c ho hr hc hf ht
    have hx := hr.1
    have hxk := hr.2.1
    have hxc : c ≤ x.a := hc x (by simp)
    have hrr := okN_none (okN_tail hr)
    have hrc : ∀ y ∈ r, x.b ≤ y.a := okN_from (okN_tail hr)
    cases put with
    | true =>
      obtain ⟨h1, h2⟩ := ht rfl
      simp only [overG, Bool.true_eq_false, false_and, if_false]
      have hl : addR out ⟨x.a, min x.b a, x.v⟩ = out := by
        unfold addR; rw [if_pos (by show min x.b a ≤ x.a; omega)]
      rw [hl]
      obtain ⟨g1, g2, g3, g4, g5⟩ := addR_sem (x := ⟨max x.a b, x.b, x.v⟩) ho (fun y hy => by have := h2 y hy; show y.b ≤ max x.a b; omega)
      simp only at g2 g3 g4 g5
      obtain ⟨q1, q2, q3⟩ := ih (addR out ⟨max x.a b, x.b, x.v⟩) true x.b g1 hrr hrc (by simp) (fun _ => ⟨by omega, fun y hy => by have := g3 y hy; omega⟩)
      refine ⟨q1, fun t => ?_, ?_⟩
      · rw [q2 t]
        simp only [if_true]
        rw [g2 t, had_cons]
        by_cases k1 : t < max c b
        · rw [if_pos k1, if_pos (by omega), if_neg (by omega)]
        · rw [if_neg k1]
          by_cases k2 : holdsAt x t
          · rw [if_pos k2]
            have k3 := k2.1
            have k4 := k2.2
            rw [if_pos (by omega), if_pos ⟨by omega, k4, hxk⟩]
          · rw [if_neg k2]
            by_cases k3 : t < max x.b b
            · have k4 : ¬ (max x.a b ≤ t ∧ t < x.b ∧ x.v.k ≠ 0) := fun hc => k2 ⟨by omega, hc.2.1⟩
              rw [if_pos k3, if_neg k4]
              have hn : hadF out t = Val.none := had_none fun y hy hc => by have := h2 y hy; have := hc.2; omega
              rw [hn, had_none]
              intro y hy hc
              have h5 := hrc y hy
              have h6 := hc.1
              by_cases h7 : x.a ≤ t
              · exact k2 ⟨h7, by omega⟩
              · omega
            · rw [if_neg k3]
      · have := addR_len out ⟨max x.a b, x.b, x.v⟩
        simp only [List.length_cons, cond_true] at q3 ⊢; omega
    | false =>
      obtain ⟨h1, h2⟩ := hf rfl
      have houtx : ∀ y ∈ out, y.b ≤ x.a := fun y hy => by have := h2 y hy; omega
      obtain ⟨g1, g2, g3, g4, g5⟩ := addR_sem (x := ⟨x.a, min x.b a, x.v⟩) ho houtx
      simp only at g2 g3 g4 g5
      have hnx : ∀ t, c ≤ t → hadF out t = Val.none := fun t htc => had_none fun y hy hc => by have := h2 y hy; have := hc.2; omega
      have len1 := addR_len out ⟨x.a, min x.b a, x.v⟩
      by_cases hput : a < x.b
      · simp only [overG, hput, and_self, if_true]
        have he1 : ∀ y ∈ addR out ⟨x.a, min x.b a, x.v⟩, y.b ≤ a := fun y hy => by
          by_cases k : x.a < min x.b a
          · have := g4 k y hy; omega
          · rw [g5 (by omega)] at hy; have := h2 y hy; omega
        obtain ⟨m1, m2, m3, m4, m5⟩ := addR_sem (x := ⟨a, b, v⟩) g1 he1
        simp only at m2 m3 m4 m5
        have he2 : ∀ y ∈ addR (addR out ⟨x.a, min x.b a, x.v⟩) ⟨a, b, v⟩, y.b ≤ b := fun y hy => m4 hab y hy
        obtain ⟨n1, n2, n3, n4, n5⟩ := addR_sem (x := ⟨max x.a b, x.b, x.v⟩) m1 (fun y hy => by have := he2 y hy; show y.b ≤ max x.a b; omega)
        simp only at n2 n3 n4 n5
        have len2 := addR_len (addR out ⟨x.a, min x.b a, x.v⟩) ⟨a, b, v⟩
        have len3 := addR_len (addR (addR out ⟨x.a, min x.b a, x.v⟩) ⟨a, b, v⟩) ⟨max x.a b, x.b, x.v⟩
        obtain ⟨q1, q2, q3⟩ := ih _ true x.b n1 hrr hrc (by simp) (fun _ => ⟨by omega, fun y hy => by have := n3 y hy; omega⟩)
        refine ⟨q1, fun t => ?_, ?_⟩
        · rw [q2 t]
          simp only [if_true, Bool.false_eq_true, if_false]
          rw [n2 t, m2 t, g2 t, had_cons]
          by_cases k1 : t < c
          · rw [if_pos k1, if_pos (by omega), if_neg (by omega), if_neg (by omega), if_neg (by omega)]
          · rw [if_neg k1]
            by_cases k2 : a ≤ t ∧ t < b
            · rw [if_pos k2, if_pos (by omega), if_neg (by omega)]
              unfold valOr
              by_cases k3 : v.k = 0
              · rw [if_neg (fun hc => hc.2.2 k3), if_pos k3, if_neg (by omega), hnx t (by omega)]
              · rw [if_pos ⟨k2.1, k2.2, k3⟩, if_neg k3]
            · rw [if_neg k2]
              by_cases k3 : holdsAt x t
              · have k4 := k3.1
                have k5 := k3.2
                rw [if_pos k3, if_pos (by omega)]
                by_cases k6 : t < a
                · rw [if_neg (by omega), if_neg (by omega), if_pos ⟨k4, by omega, hxk⟩]
                · rw [if_pos ⟨by omega, k5, hxk⟩]
              · rw [if_neg k3]
                by_cases k4 : t < max x.b b
                · have k5 : ¬ (max x.a b ≤ t ∧ t < x.b ∧ x.v.k ≠ 0) := fun hc => k3 ⟨by omega, hc.2.1⟩
                  have k6 : ¬ (a ≤ t ∧ t < b ∧ v.k ≠ 0) := fun hc => k2 ⟨hc.1, hc.2.1⟩
                  have k7 : ¬ (x.a ≤ t ∧ t < min x.b a ∧ x.v.k ≠ 0) := fun hc => k3 ⟨hc.1, by omega⟩
                  rw [if_pos k4, if_neg k5, if_neg k6, if_neg k7, hnx t (by omega), had_none]
                  intro y hy hc
                  have h5 := hrc y hy
                  have h6 := hc.1
                  by_cases h7 : x.a ≤ t
                  · exact k3 ⟨h7, by omega⟩
                  · omega
                · rw [if_neg k4]
        · simp only [List.length_cons, cond_true, cond_false] at q3 ⊢; omega
      · simp only [overG, hput, and_false, if_false]
        have e2 : addR (addR out ⟨x.a, min x.b a, x.v⟩) ⟨max x.a b, x.b, x.v⟩ = addR out ⟨x.a, min x.b a, x.v⟩ := by
          exact addR_nop (by show x.b ≤ max x.a b; omega)
        rw [e2]
        have he1 : ∀ y ∈ addR out ⟨x.a, min x.b a, x.v⟩, y.b ≤ x.b := fun y hy => by
          have := g4 (by omega) y hy; omega
        obtain ⟨q1, q2, q3⟩ := ih _ false x.b g1 hrr hrc (fun _ => ⟨by omega, he1⟩) (by simp)
        refine ⟨q1, fun t => ?_, ?_⟩
        · rw [q2 t]
          simp only [Bool.false_eq_true, if_false]
          rw [g2 t, had_cons]
          by_cases k1 : t < c
          · rw [if_pos k1, if_pos (by omega), if_neg (by omega)]
          · rw [if_neg k1]
            by_cases k2 : t < x.b
            · rw [if_pos k2]
              by_cases k3 : x.a ≤ t
              · rw [if_pos ⟨k3, by omega, hxk⟩, if_neg (by omega), if_pos ⟨k3, k2⟩]
              · have k4 : ¬ holdsAt x t := fun hc => k3 hc.1
                rw [if_neg (by omega), if_neg (by omega), if_neg k4, hnx t (by omega), had_none]
                intro y hy hc
                have h5 := hrc y hy
                have h6 := hc.1
                omega
            · have k4 : ¬ holdsAt x t := fun hc => k2 hc.2
              rw [if_neg k2, if_neg k4]
        · simp only [List.length_cons, cond_false] at q3 ⊢; omega
theorem overR_sem {l : List Row} (h : okN none l) {a b : Int} (hab : a < b) (v : Val) : okN none (overR l a b v) ∧ (∀ t, hadF (overR l a b v) t = if a ≤ t ∧ t < b then valOr v else hadF l t) ∧ (overR l a b v).length ≤ l.length + 2 := by
  obtain ⟨c, hc1, hc2⟩ : ∃ c : Int, c ≤ a ∧ ∀ y ∈ l, c ≤ y.a := by
    cases l with
    | nil => exact ⟨a, by omega, by simp⟩
    | cons x r =>
      refine ⟨min a x.a, by omega, fun y hy => ?_⟩
      rcases List.mem_cons.1 hy with rfl | hy
      · omega
      · have := okN_from (okN_tail h) y hy; have := h.1; omega
  obtain ⟨q1, q2, q3⟩ := overG_sem a b v hab l [] false c trivial h hc2 (fun _ => ⟨hc1, by simp⟩) (by simp)
  refine ⟨q1, fun t => ?_, by have := q3; simpa [overR] using this⟩
  have := q2 t
  simp only [Bool.false_eq_true, if_false] at this
  rw [show overR l a b v = overG a b v l [] false from rfl, this]
  by_cases k1 : t < c
  · rw [if_pos k1, if_neg (by omega), had_none (l := l)]
    · rfl
    · intro y hy hc; have := hc2 y hy; have := hc.1; omega
  · rw [if_neg k1]
/-- What is in normal form is told by what it has. -/
theorem okN_ext : ∀ {l m : List Row} {p q : Option Row}, okN p l → okN q m → (∀ t, hadF l t = hadF m t) → l = m := by
  have first : ∀ {x : Row} {r : List Row} {q : Option Row}, okN q (x :: r) → ∀ t, t < x.a → hadF (x :: r) t = Val.none := by
    intro x r q h t ht
    refine had_none fun y hy hc => ?_
    have h1 := hc.1
    rcases List.mem_cons.1 hy with rfl | hy
    · omega
    · have := okN_from (okN_tail h) y hy; have := h.1; omega
  have knone : ∀ {v : Val}, v.k ≠ 0 → v ≠ Val.none := fun h e => h (by rw [e]; rfl)
  have atx : ∀ {x : Row} {r : List Row} {t : Int}, holdsAt x t → hadF (x :: r) t = x.v := fun h => by rw [had_cons, if_pos h]
  intro l
  induction l with
  | nil =>
    intro m p q _ hm he
    cases m with
    | nil => rfl
    | cons y s =>
      have h1 := he y.a
      rw [atx (x := y) ⟨Int.le_refl _, hm.1⟩] at h1
      exact absurd h1.symm (knone hm.2.1)
  | cons x r ih =>
    intro m p q hl hm he
    cases m with
    | nil =>
      have h1 := he x.a
      rw [atx (x := x) ⟨Int.le_refl _, hl.1⟩] at h1
      exact absurd h1 (knone hl.2.1)
    | cons y s =>
      have ha : x.a = y.a := by
        rcases Int.lt_trichotomy x.a y.a with h | h | h
        · have h1 := he x.a
          rw [atx (x := x) ⟨Int.le_refl _, hl.1⟩, first hm _ h] at h1
          exact absurd h1 (knone hl.2.1)
        · exact h
        · have h1 := he y.a
          rw [atx (x := y) ⟨Int.le_refl _, hm.1⟩, first hl _ h] at h1
          exact absurd h1.symm (knone hm.2.1)
      have hv : x.v = y.v := by
        have h1 := he x.a
        rw [atx (x := x) ⟨Int.le_refl _, hl.1⟩, atx (x := y) ⟨by omega, by have := hm.1; omega⟩] at h1
        exact h1
      -- an end that comes earlier tells
      have late : ∀ {x y : Row} {r s : List Row} {p q : Option Row}, okN p (x :: r) → okN q (y :: s) → x.v = y.v → x.a = y.a → (∀ t, hadF (x :: r) t = hadF (y :: s) t) → ¬ x.b < y.b := by
        intro x y r s p q hl hm hv ha he h
        have h1 := he x.b
        have hx := hl.1
        rw [atx (x := y) ⟨by omega, h⟩, had_cons, if_neg (fun hc => by have := hc.2; omega)] at h1
        cases r with
        | nil => exact absurd h1.symm (knone hm.2.1)
        | cons z r =>
          obtain ⟨z1, z2, z3, z4⟩ := okN_tail hl
          have z5 := z3 x rfl
          by_cases hz : x.b = z.a
          · rw [atx (x := z) ⟨by omega, by omega⟩] at h1
            exact z5.2 ⟨hz, by rw [hv, h1]⟩
          · rw [first (okN_tail hl) _ (by omega)] at h1
            exact absurd h1.symm (knone hm.2.1)
      have hb : x.b = y.b := by
        have h1 := late hl hm hv ha he
        have h2 := late hm hl hv.symm ha.symm (fun t => (he t).symm)
        omega
      have hxy : x = y := by
        obtain ⟨xa, xb, xv⟩ := x
        obtain ⟨ya, yb, yv⟩ := y
        simp only at ha hb hv
        subst ha; subst hb; subst hv; rfl
      subst hxy
      congr 1
      refine ih (okN_tail hl) (okN_tail hm) fun t => ?_
      have h1 := he t
      rw [had_cons, had_cons] at h1
      by_cases k : holdsAt x t
      · have e1 : hadF r t = Val.none := had_none fun y hy hc => by have := okN_from (okN_tail hl) y hy; have := hc.1; have := k.2; omega
        have e2 : hadF s t = Val.none := had_none fun y hy hc => by have := okN_from (okN_tail hm) y hy; have := hc.1; have := k.2; omega
        rw [e1, e2]
      · rw [if_neg k, if_neg k] at h1
        exact h1
end Go.Proofs.YtedniogmjhhhmaaDoor
