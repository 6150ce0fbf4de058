/-
  Chapter 02 (span): the laws, but for their arguments' reading.
-/
import Derived.Test.YtedniogmjhhhmaaDoorST11
import Derived.Test.YtedniogmjhhhmaaDoorSP14
set_option linter.all false
set_option linter.unusedSimpArgs false
set_option linter.unusedVariables false
section
namespace Go.Proofs.YtedniogmjhhhmaaDoor
open Go Go.Ev

theorem few_fold (l : List Row) : (decide (l.length ≤ 80) && l.all fun r => decide (r.v.s.length ≤ 200)) = fewL l := rfl
theorem take_self (l : List Row) : List.take l.length (rows l) = rows l := by rw [← rows_length l, List.take_length]
theorem few_len {l : List Row} (h : fewL l = true) : l.length ≤ 80 := by
  simp only [fewL, Bool.and_eq_true, decide_eq_true_eq] at h; exact h.1
theorem turnR_len (l : List Row) (a b : Int) (v : Val) : (turnR l a b v).length ≤ 64 := by
  unfold turnR fewR
  repeat' split
  all_goals simp_all
theorem putR_len (l : List Row) (a b : Int) (v : Val) : (putR l a b v).length ≤ 64 := by
  unfold putR
  split
  · exact turnR_len l a b v
  · simp
theorem clipG_len (a b : Int) : ∀ (l out : List Row), (clipG a b l out).length ≤ out.length + l.length
  | [], out => by simp [clipG]
  | x :: r, out => by
    have h1 := addR_len out ⟨max x.a a, min x.b b, x.v⟩
    have h2 := clipG_len a b r (addR out ⟨max x.a a, min x.b b, x.v⟩)
    simp only [clipG, List.length_cons]; omega
theorem clipR_len (l : List Row) (a b : Int) : (clipR l a b).length ≤ l.length := by
  unfold clipR
  split
  · have := clipG_len a b l []; simpa using this
  · simp
theorem diffG_len (f g : Int → Val) : ∀ (ps : List (Int × Int)) (acc : List Piece), (diffG f g ps acc).length ≤ acc.length + ps.length
  | [], acc => by simp [diffG]
  | q :: r, acc => by
    have h1 := addP_len acc ⟨q.1, q.2, f q.1, g q.1⟩
    have h2 := diffG_len f g r (addP acc ⟨q.1, q.2, f q.1, g q.1⟩)
    simp only [diffG, List.length_cons]; omega
theorem diffR_len (x y : List Row) : (diffR x y).length ≤ 1000 := by
  unfold diffR
  split
  · rename_i h
    have lx := right_len h.1
    have ly := right_len h.2
    have h1 := diffG_len (atR x) (atR y) (pairsOf (bnds x y)) []
    rw [pairsOf_len] at h1
    have h2 := compact_le (sortI (timesOf x ++ timesOf y))
    simp only [sortI_len, List.length_append, timesOf_len] at h2
    have e : bnds x y = Lib.compact (sortI (timesOf x ++ timesOf y)) := rfl
    rw [e] at h1 ⊢
    simp only [List.length_nil] at h1; omega
  · simp
theorem fewR_len (l : List Row) : (fewR l).length ≤ 64 := by
  unfold fewR
  split
  · assumption
  · simp
theorem applyR_len (l : List Row) (d : List Piece) : (applyR l d).length ≤ 64 := by
  unfold applyR
  repeat' split
  · exact fewR_len _
  · simp
  · simp
theorem vnone (v : Val) : (v.k == v.k && (v.n == v.n && (v.s == v.s && true))) = true := by simp

theorem f6 (l : List Row) (a b : Int) (v : Val) : call E 6 [.c (.sl 5 none false (rows l)), V.i a, V.i b, VV v] [] = some ([V.b true], []) := by
  obtain ⟨k, m, s⟩ := v
  refine call_of (E := E) (sh := sh) (ct := ctL) (na := 4) (m := 0) ctL_ok rfl rfl rfl rfl rfl rfl ?_
  rw [t6]
  have ht : List.take 0 ([] : List (List C)) = [] := rfl
  have l1 := turnR_len l a b Val.none
  have l2 := putR_len l a b ⟨k, m, s⟩
  have l3 := clipR_len l a b
  simp only [fd_br, fd_chk', fd_leaf, isRows_rows, if_true, toRows_rows, rows_length, few_fold]
  cases hf : fewL l
  · simp
  have hl := few_len hf
  by_cases hs : (200 : Int) < s.length
  · simp [hs]
  · simp [hs, ht, take_self, show l.length < 4294967296 by omega, show (turnR l a b Val.none).length < 4294967296 by omega, show (putR l a b ⟨k, m, s⟩).length < 4294967296 by omega, show (clipR l a b).length < 4294967296 by omega, show l.length ≤ 4294967296 by omega]
end Go.Proofs.YtedniogmjhhhmaaDoor

end

/-
  Chapter 02 (span): what comes is right; clips; turns: plain Lean.
-/
section
namespace Go.Proofs.YtedniogmjhhhmaaDoor
open Go Go.Ev

/-- May a row stand in right rows? -/
def GR (x : Row) : Prop := 0 ≤ x.a ∧ x.b ≤ 1099511627776 ∧ checkV x.v = 0
theorem okFrom_iff : ∀ {l : List Row} {p : Option Row}, okFrom p l = true ↔ okN p l ∧ ∀ y ∈ l, GR y
  | [], p => by simp [okFrom, okN]
  | x :: r, p => by
    have ih := okFrom_iff (l := r) (p := some x)
    constructor
    · intro h
      refine ⟨okFrom_okN h, fun y hy => ?_⟩
      simp only [okFrom, Bool.and_eq_true, decide_eq_true_eq] at h
      obtain ⟨⟨⟨h1, h2⟩, h3⟩, h4⟩ := h
      rcases List.mem_cons.1 hy with rfl | hy
      · simp only [isSpan, Bool.and_eq_true, decide_eq_true_eq] at h1
        exact ⟨h1.1.1, h1.2, h2⟩
      · exact (ih.1 h4).2 y hy
    · rintro ⟨h, hg⟩
      have hx := hg x (by simp)
      have h1 := h.1
      simp only [okFrom, Bool.and_eq_true, decide_eq_true_eq]
      refine ⟨⟨⟨?_, hx.2.2⟩, ?_⟩, ih.2 ⟨h.2.2.2, fun y hy => hg y (by simp [hy])⟩⟩
      · simp only [isSpan, Bool.and_eq_true, decide_eq_true_eq]
        exact ⟨⟨hx.1, h1⟩, hx.2.1⟩
      · cases p with
        | none => rfl
        | some w =>
          have h3 := h.2.2.1 w rfl
          simp only [Bool.not_eq_true', Bool.or_eq_false_iff, decide_eq_false_iff_not, Bool.and_eq_false_iff]
          refine ⟨by omega, ?_⟩
          by_cases e : x.a = w.b
          · right; exact fun hv => h3.2 ⟨e.symm, hv.symm⟩
          · left; exact e
theorem right_iff {l : List Row} : right l = true ↔ l.length ≤ 64 ∧ okN none l ∧ ∀ y ∈ l, GR y := by
  simp only [right, Bool.and_eq_true, decide_eq_true_eq, okFrom_iff]
theorem addR_GR {l : List Row} {x : Row} (h : ∀ y ∈ l, GR y) (hx : x.a < x.b → x.v.k ≠ 0 → GR x) : ∀ y ∈ addR l x, GR y := by
  intro y hy
  unfold addR at hy
  split at hy
  · exact h y hy
  · split at hy
    · exact h y hy
    · have hgx := hx (by omega) (by assumption)
      split at hy
      · simp at hy; subst hy; exact hgx
      · rename_i w hw
        have hwm : w ∈ l := List.mem_of_getLast? hw
        split at hy
        · rename_i he
          rcases List.mem_or_eq_of_mem_set hy with hy | rfl
          · exact h y hy
          · exact ⟨(h w hwm).1, hgx.2.1, (h w hwm).2.2⟩
        · rcases List.mem_append.1 hy with hy | hy
          · exact h y hy
          · simp at hy; subst hy; exact hgx
theorem overG_GR {a b : Int} {v : Val} (hs : isSpan a b = true) (hv : v.k ≠ 0 → checkV v = 0) : ∀ (r out : List Row) (put : Bool), (∀ y ∈ r, GR y) → (∀ y ∈ out, GR y) → ∀ y ∈ overG a b v r out put, GR y := by
  simp only [isSpan, Bool.and_eq_true, decide_eq_true_eq] at hs
  have hmid : ∀ {out : List Row}, (∀ y ∈ out, GR y) → ∀ y ∈ addR out ⟨a, b, v⟩, GR y := fun h => addR_GR h fun _ hk => ⟨hs.1.1, hs.2, hv hk⟩
  intro r
  induction r with
  | nil =>
    intro out put _ ho
    simp only [overG]
    split
    · exact ho
    · exact hmid ho
  | cons x r ih =>
    intro out put hr ho
    have hx := hr x (by simp)
    have hl : ∀ {out : List Row}, (∀ y ∈ out, GR y) → ∀ y ∈ addR out ⟨x.a, min x.b a, x.v⟩, GR y := fun h => addR_GR h fun _ _ => ⟨hx.1, by show min x.b a ≤ _; have := hx.2.1; omega, hx.2.2⟩
    have hrr : ∀ {out : List Row}, (∀ y ∈ out, GR y) → ∀ y ∈ addR out ⟨max x.a b, x.b, x.v⟩, GR y := fun h => addR_GR h fun _ _ => ⟨by show 0 ≤ max x.a b; have := hx.1; omega, hx.2.1, hx.2.2⟩
    simp only [overG]
    split
    · exact ih _ _ (fun y hy => hr y (by simp [hy])) (hrr (hmid (hl ho)))
    · exact ih _ _ (fun y hy => hr y (by simp [hy])) (hrr (hl ho))
theorem over_right {l : List Row} (h : right l = true) {a b : Int} (hs : isSpan a b = true) {v : Val} (hv : v.k ≠ 0 → checkV v = 0) (hlen : (overR l a b v).length ≤ 64) : right (overR l a b v) = true := by
  obtain ⟨_, h1, h2⟩ := right_iff.1 h
  exact right_iff.2 ⟨hlen, (overR_sem h1 (by simp only [isSpan, Bool.and_eq_true, decide_eq_true_eq] at hs; exact hs.1.2) v).1, overG_GR hs hv l [] false h2 (by simp)⟩
theorem atP_had {l : List Row} (h : right l = true) (t : Int) : atP l t = hadF l t := by
  unfold atP; rw [if_pos h, atR_had (right_okN h)]

/-! ## clips -/
theorem clipG_sem (a b : Int) : ∀ (r out : List Row) (c : Int), okN none out → okN none r → (∀ y ∈ out, y.b ≤ c) → (∀ y ∈ r, c ≤ y.a) → (∀ y ∈ out, a ≤ y.a ∧ y.b ≤ b) → (∀ y ∈ r, GR y) → (∀ y ∈ out, GR y) →
    okN none (clipG a b r out) ∧ (∀ t, hadF (clipG a b r out) t = if t < c then hadF out t else if a ≤ t ∧ t < b then hadF r t else Val.none) ∧ (∀ y ∈ clipG a b r out, GR y)
  | [], out, c, ho, _, hc, _, _, _, hg => ⟨ho, fun t => by
      simp only [clipG]
      by_cases h : t < c
      · rw [if_pos h]
      · rw [if_neg h, had_none (l := out)]
        · split <;> rfl
        · intro y hy k; have := hc y hy; have := k.2; omega, hg⟩
  | x :: r, out, c, ho, hr, hc, hrc, hab, hgr, hg => by
    have hxc := hrc x (by simp)
    have hgx := hgr x (by simp)
    have hxab := hr.1
    obtain ⟨g1, g2, g3, g4, g5⟩ := addR_sem (x := ⟨max x.a a, min x.b b, x.v⟩) ho (fun y hy => by have := hc y hy; show y.b ≤ max x.a a; omega)
    simp only at g2 g3 g4 g5
    have hends : ∀ y ∈ addR out ⟨max x.a a, min x.b b, x.v⟩, y.b ≤ x.b := fun y hy => by
      by_cases k : max x.a a < min x.b b
      · have := g4 k y hy; omega
      · rw [g5 (by omega)] at hy; have := hc y hy; omega
    obtain ⟨q1, q2, q3⟩ := clipG_sem a b r (addR out ⟨max x.a a, min x.b b, x.v⟩) x.b g1 (okN_none (okN_tail hr)) hends (okN_from (okN_tail hr)) (fun y hy => by
      by_cases k : max x.a a < min x.b b
      · refine ⟨?_, by have := g4 k y hy; omega⟩
        unfold addR at hy
        rw [if_neg (by show ¬ (min x.b b ≤ max x.a a); omega)] at hy
        split at hy
        · exact (hab y hy).1
        · split at hy
          · simp at hy; subst hy; show a ≤ max x.a a; omega
          · rename_i w hw
            have hwm : w ∈ out := List.mem_of_getLast? hw
            split at hy
            · rcases List.mem_or_eq_of_mem_set hy with hy | rfl
              · exact (hab y hy).1
              · exact (hab w hwm).1
            · rcases List.mem_append.1 hy with hy | hy
              · exact (hab y hy).1
              · simp at hy; subst hy; show a ≤ max x.a a; omega
      · rw [g5 (by omega)] at hy; exact hab y hy) (fun y hy => hgr y (by simp [hy]))
      (addR_GR hg fun _ _ => ⟨by show 0 ≤ max x.a a; have := hgx.1; omega, by show min x.b b ≤ _; have := hgx.2.1; omega, hgx.2.2⟩)
    refine ⟨q1, fun t => ?_, q3⟩
    rw [clipG, q2 t, g2 t, had_cons]
    by_cases k1 : t < c
    · rw [if_pos k1, if_pos (by omega), if_neg (by omega)]
    · rw [if_neg k1]
      have hn : hadF out t = Val.none := had_none fun y hy k => by have := hc y hy; have := k.2; omega
      by_cases k2 : t < x.b
      · rw [if_pos k2, hn]
        by_cases k3 : x.a ≤ t
        · have k4 : holdsAt x t := ⟨k3, k2⟩
          rw [if_pos k4]
          by_cases k5 : a ≤ t ∧ t < b
          · rw [if_pos k5, if_pos ⟨by omega, by omega, hr.2.1⟩]
          · rw [if_neg k5, if_neg (by omega)]
        · have k4 : ¬ holdsAt x t := fun k => k3 k.1
          rw [if_neg (by omega), if_neg k4, had_none (l := r)]
          · split <;> rfl
          · intro y hy k
            have h5 := okN_from (okN_tail hr) y hy
            have h6 := k.1
            omega
      · have k4 : ¬ holdsAt x t := fun k => k2 k.2
        rw [if_neg k2, if_neg k4]
theorem clip_sem {l : List Row} (h : right l = true) (a b : Int) : right (clipR l a b) = true ∧ ∀ t, hadF (clipR l a b) t = if a ≤ t ∧ t < b then hadF l t else Val.none := by
  obtain ⟨h0, h1, h2⟩ := right_iff.1 h
  obtain ⟨c, hc⟩ : ∃ c : Int, ∀ y ∈ l, c ≤ y.a := by
    cases l with
    | nil => exact ⟨0, by simp⟩
    | cons x r =>
      refine ⟨x.a, fun y hy => ?_⟩
      rcases List.mem_cons.1 hy with rfl | hy
      · omega
      · have := okN_from (okN_tail h1) y hy; have := h1.1; omega
  obtain ⟨q1, q2, q3⟩ := clipG_sem a b l [] c trivial h1 (by simp) hc (by simp) h2 (by simp)
  have e : clipR l a b = clipG a b l [] := by unfold clipR; rw [if_pos h]
  have hlen : (clipG a b l []).length ≤ l.length := by
    have key : ∀ (l out : List Row), (clipG a b l out).length ≤ out.length + l.length := by
      intro l
      induction l with
      | nil => intro out; simp [clipG]
      | cons x r ih =>
        intro out
        have h1 := addR_len out ⟨max x.a a, min x.b b, x.v⟩
        have h2 := ih (addR out ⟨max x.a a, min x.b b, x.v⟩)
        simp only [clipG, List.length_cons]; omega
    have := key l []
    simpa using this
  rw [e]
  refine ⟨right_iff.2 ⟨by omega, q1, q3⟩, fun t => ?_⟩
  rw [q2 t]
  by_cases k : t < c
  · rw [if_pos k, had_none (l := l)]
    · split <;> rfl
    · intro y hy hk; have := hc y hy; have := hk.1; omega
  · rw [if_neg k]
theorem clip_twice {l : List Row} (h : right l = true) (a b : Int) : clipR (clipR l a b) a b = clipR l a b := by
  obtain ⟨h1, h2⟩ := clip_sem h a b
  obtain ⟨g1, g2⟩ := clip_sem h1 a b
  refine okN_ext (right_okN g1) (right_okN h1) fun t => ?_
  rw [g2 t, h2 t]
  split <;> rfl

/-! ## where two lists differ -/
/-- Pieces that tell from c on where f and g differ, up to d. -/
def tells (f g : Int → Val) : Int → List Piece → Int → Prop
  | c, [], d => c ≤ d ∧ ∀ t, c ≤ t → t < d → f t = g t
  | c, p :: r, d => c ≤ p.a ∧ p.a < p.b ∧ p.h ≠ p.w ∧ (∀ t, c ≤ t → t < p.a → f t = g t) ∧ (∀ t, p.a ≤ t → t < p.b → f t = p.h ∧ g t = p.w) ∧ tells f g p.b r d
theorem tells_more {f g : Int → Val} : ∀ {l : List Piece} {c d e : Int}, tells f g c l d → d ≤ e → (∀ t, d ≤ t → t < e → f t = g t) → tells f g c l e
  | [], c, d, e, h, he, hfg => ⟨by have := h.1; omega, fun t h1 h2 => by
      by_cases k : t < d
      · exact h.2 t h1 k
      · exact hfg t (by omega) h2⟩
  | p :: r, c, d, e, h, he, hfg => ⟨h.1, h.2.1, h.2.2.1, h.2.2.2.1, h.2.2.2.2.1, tells_more h.2.2.2.2.2 he hfg⟩
theorem tells_snoc {f g : Int → Val} {p : Piece} : ∀ {l : List Piece} {c : Int}, tells f g c l p.a → p.a < p.b → p.h ≠ p.w → (∀ t, p.a ≤ t → t < p.b → f t = p.h ∧ g t = p.w) → tells f g c (l ++ [p]) p.b
  | [], c, h, h1, h2, h3 => ⟨h.1, h1, h2, h.2, h3, Int.le_refl _, fun t h4 h5 => by omega⟩
  | q :: r, c, h, h1, h2, h3 => ⟨h.1, h.2.1, h.2.2.1, h.2.2.2.1, h.2.2.2.2.1, tells_snoc h.2.2.2.2.2 h1 h2 h3⟩
theorem tells_last {f g : Int → Val} {w : Piece} {b : Int} : ∀ {l : List Piece} {c : Int}, tells f g c (l ++ [w]) w.b → w.b < b → (∀ t, w.b ≤ t → t < b → f t = w.h ∧ g t = w.w) → tells f g c (l ++ [{ w with b := b }]) b
  | [], c, h, h1, h2 => ⟨h.1, by have := h.2.1; show w.a < b; omega, h.2.2.1, h.2.2.2.1, fun t h3 h4 => by
      by_cases k : t < w.b
      · exact h.2.2.2.2.1 t h3 k
      · exact h2 t (by omega) h4, Int.le_refl _, fun t h4 h5 => by have h4 : b ≤ t := h4; omega⟩
  | q :: r, c, h, h1, h2 => ⟨h.1, h.2.1, h.2.2.1, h.2.2.2.1, h.2.2.2.2.1, tells_last h.2.2.2.2.2 h1 h2⟩
theorem tells_end {f g : Int → Val} : ∀ {l : List Piece} {c d : Int}, tells f g c l d → ∀ y ∈ l, c ≤ y.a ∧ y.b ≤ d
  | [], _, _, _, y, hy => by simp at hy
  | p :: r, c, d, h, y, hy => by
    have hle : ∀ {l : List Piece} {c d : Int}, tells f g c l d → c ≤ d := by
      intro l
      induction l with
      | nil => intro c d h; exact h.1
      | cons p r ih => intro c d h; have := ih h.2.2.2.2.2; have := h.1; have := h.2.1; omega
    rcases List.mem_cons.1 hy with rfl | hy
    · exact ⟨h.1, hle h.2.2.2.2.2⟩
    · have := tells_end h.2.2.2.2.2 y hy
      have := h.1; have := h.2.1; exact ⟨by omega, by omega⟩
theorem addP_tells {f g : Int → Val} {acc : List Piece} {c p q : Int} {vf vg : Val} (h : tells f g c acc p) (hpq : p < q) (hf : ∀ t, p ≤ t → t < q → f t = vf) (hg : ∀ t, p ≤ t → t < q → g t = vg) : tells f g c (addP acc ⟨p, q, vf, vg⟩) q := by
  unfold addP
  split
  · rename_i he
    exact tells_more h (by omega) fun t h1 h2 => by rw [hf t h1 h2, hg t h1 h2]; exact he
  · rename_i hne
    split
    · rename_i hl
      have : acc = [] := by simpa using hl
      subst this
      exact tells_snoc (p := ⟨p, q, vf, vg⟩) h hpq hne fun t h1 h2 => ⟨hf t h1 h2, hg t h1 h2⟩
    · rename_i w hw
      split
      · rename_i hc
        obtain ⟨c1, c2, c3⟩ := hc
        rcases List.eq_nil_or_concat acc with rfl | ⟨m, w', rfl⟩
        · simp at hw
        · rw [List.concat_eq_append] at *
          simp at hw
          subst hw
          have c1 : w'.b = p := c1
          have e : (m ++ [w']).set ((m ++ [w']).length - 1) { w' with b := q } = m ++ [{ w' with b := q }] := by simp
          rw [e]
          subst c1
          exact tells_last h hpq fun t h1 h2 => ⟨by rw [hf t h1 h2]; exact c2.symm, by rw [hg t h1 h2]; exact c3.symm⟩
      · exact tells_snoc (p := ⟨p, q, vf, vg⟩) h hpq hne fun t h1 h2 => ⟨hf t h1 h2, hg t h1 h2⟩
theorem diffG_tells {f g : Int → Val} : ∀ (bs : List Int) (acc : List Piece) (c : Int), SS bs → (∀ b, bs.head? = some b → tells f g c acc b) → (∀ p q, (p, q) ∈ pairsOf bs → ∀ t, p ≤ t → t < q → f t = f p ∧ g t = g p) → ∀ e, bs.getLast? = some e → tells f g c (diffG f g (pairsOf bs) acc) e
  | [], acc, c, _, _, _, e, he => by simp at he
  | [x], acc, c, _, h, _, e, he => by simp at he; subst he; exact h x rfl
  | x :: y :: r, acc, c, hs, h, hc, e, he => by
    obtain ⟨h1, h2⟩ := List.pairwise_cons.1 hs
    have hxy := h1 y (by simp)
    have h0 := h x rfl
    have hp := hc x y (by simp [pairsOf])
    simp only [pairsOf, diffG]
    refine diffG_tells (y :: r) _ c h2 (fun b hb => ?_) (fun p q hpq => hc p q (by simp [pairsOf, hpq])) e (by simpa [List.getLast?_cons_cons] using he)
    simp at hb; subst hb
    exact addP_tells h0 hxy (fun t k1 k2 => (hp t k1 k2).1) (fun t k1 k2 => (hp t k1 k2).2)
theorem had_pair {x : List Row} {bs : List Int} (hs : SS bs) (hm : ∀ y ∈ x, y.a ∈ bs ∧ y.b ∈ bs) {p q : Int} (h : (p, q) ∈ pairsOf bs) {t : Int} (h1 : p ≤ t) (h2 : t < q) : hadF x t = hadF x p := by
  obtain ⟨_, _, _, m4⟩ := pairsOf_mem hs h
  refine (had_same fun y hy => ?_).symm
  have k1 := m4 y.a (hm y hy).1
  have k2 := m4 y.b (hm y hy).2
  omega
/-- What two right lists differ by. -/
theorem diff_tells {x y : List Row} (hx : right x = true) (hy : right y = true) : ∃ c d : Int, tells (hadF x) (hadF y) c (diffR x y) d ∧ (∀ t, t < c ∨ d ≤ t → hadF x t = Val.none ∧ hadF y t = Val.none) := by
  have e : diffR x y = diffG (hadF x) (hadF y) (pairsOf (bnds x y)) [] := by
    unfold diffR
    rw [if_pos ⟨hx, hy⟩, diffG_congr (atR_had (right_okN hx)) (atR_had (right_okN hy))]
  rw [e]
  obtain ⟨s1, s2⟩ := bnds_SS x y
  have mx : ∀ z ∈ x, z.a ∈ bnds x y ∧ z.b ∈ bnds x y := fun z hz => by rw [s2, s2]; exact ⟨.inl (times_mem hz).1, .inl (times_mem hz).2⟩
  have my : ∀ z ∈ y, z.a ∈ bnds x y ∧ z.b ∈ bnds x y := fun z hz => by rw [s2, s2]; exact ⟨.inr (times_mem hz).1, .inr (times_mem hz).2⟩
  generalize bnds x y = bs at *
  cases bs with
  | nil =>
    have ex : x = [] := List.eq_nil_iff_forall_not_mem.2 fun z hz => by have := (mx z hz).1; simp at this
    have ey : y = [] := List.eq_nil_iff_forall_not_mem.2 fun z hz => by have := (my z hz).1; simp at this
    subst ex; subst ey
    exact ⟨0, 0, ⟨Int.le_refl _, fun t h1 h2 => rfl⟩, fun t _ => ⟨rfl, rfl⟩⟩
  | cons b r =>
    obtain ⟨d, hd⟩ : ∃ d, (b :: r).getLast? = some d := ⟨_, List.getLast?_cons ..⟩
    refine ⟨b, d, diffG_tells (b :: r) [] b s1 (fun b' hb => (by simp at hb; subst hb; exact ⟨Int.le_refl _, fun t h1 h2 => by omega⟩)) (fun p q hpq t h1 h2 => ⟨had_pair s1 mx hpq h1 h2, had_pair s1 my hpq h1 h2⟩) d hd, fun t ht => ?_⟩
    have hfirst : ∀ z ∈ b :: r, b ≤ z := fun z hz => by
      rcases List.mem_cons.1 hz with rfl | hz
      · omega
      · have := (List.pairwise_cons.1 s1).1 z hz; omega
    have hlast : ∀ (bs : List Int), SS bs → bs.getLast? = some d → ∀ z ∈ bs, z ≤ d := by
      intro bs
      induction bs with
      | nil => intro _ h; simp at h
      | cons u v ih =>
        intro hs h z hz
        cases v with
        | nil => simp at h hz; omega
        | cons w v =>
          rw [List.getLast?_cons_cons] at h
          rcases List.mem_cons.1 hz with rfl | hz
          · have h1 := (List.pairwise_cons.1 hs).1 w (by simp)
            have h2 := ih (List.pairwise_cons.1 hs).2 h w (by simp)
            omega
          · exact ih (List.pairwise_cons.1 hs).2 h z hz
    have hlast := hlast _ s1 hd
    have key : ∀ (l : List Row), (∀ z ∈ l, z.a ∈ b :: r ∧ z.b ∈ b :: r) → hadF l t = Val.none := fun l hl => had_none fun z hz hk => by
      have h1 := hfirst z.a (hl z hz).1
      have h2 := hlast z.b (hl z hz).2
      have h3 := hk.1; have h4 := hk.2
      omega
    exact ⟨key x mx, key y my⟩
end Go.Proofs.YtedniogmjhhhmaaDoor

end
