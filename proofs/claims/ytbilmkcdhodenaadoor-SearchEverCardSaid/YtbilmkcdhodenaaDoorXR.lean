/-
  Chapter 31 (search): arguments that read as runs and worlds; the laws.
-/
import Derived.Test.YtbilmkcdhodenaaDoorAR
import Derived.Test.YtbilmkcdhodenaaDoorXT5
set_option linter.all false
set_option linter.unusedSimpArgs false
set_option linter.unusedVariables false
namespace Go.Proofs.YtbilmkcdhodenaaDoor
open Go Go.Ev
set_option maxRecDepth 100000

theorem rd45 {n : Nat} {xs : List C} (h : Rd Tryd.prog n 45 xs) : ∃ x : Rn, xs = en x := by
  cases n with
  | zero => exact h.elim
  | succ n =>
    rw [Rd, Tryd.underlying45] at h
    obtain ⟨parts, hl, rfl, hp⟩ := h
    match parts, hl with
    | [p, q], _ =>
      obtain ⟨m, rfl⟩ := rdI Tryd.underlying3 (hp 0 _ p rfl rfl)
      obtain ⟨v, rfl⟩ := rd32 (hp 1 _ q rfl rfl)
      exact ⟨⟨m, v⟩, rfl⟩
theorem rd58 {n : Nat} {xs : List C} (h : Rd Tryd.prog n 58 xs) : ∃ c : Gr.Cm, xs = Gr.ec c := by
  cases n with
  | zero => exact h.elim
  | succ n =>
    rw [Rd, Tryd.underlying58] at h
    obtain ⟨parts, hl, rfl, hp⟩ := h
    match parts, hl with
    | [p, q], _ =>
      obtain ⟨l, rfl, _⟩ := rd40 (hp 0 _ p rfl rfl)
      obtain ⟨v, rfl⟩ := rdI Tryd.underlying3 (hp 1 _ q rfl rfl)
      exact ⟨(l, v), rfl⟩
theorem rdSl {t : TypeId} (ht : Tryd.prog.underlying t = some .string) {n : Nat} {xs : List C} (h : Rd Tryd.prog n t xs) : ∃ v : List UInt8, xs = [.str v] ∧ v.length ≤ maxLen := by
  cases n with
  | zero => exact h.elim
  | succ n =>
    simp only [Rd, ht] at h
    exact h
theorem rdT : ∀ (n : Nat) (xs : List C), (Rd Tryd.prog n 51 xs → ∃ t : Nd, xs = t.enc ∧ lensT t = true) ∧ (Rd Tryd.prog n 27 xs → ∃ ks : List Nd, xs = [.sl 3 none false (encL ks)] ∧ lensL ks = true ∧ ks.length ≤ maxLen)
  | 0, xs => ⟨fun h => h.elim, fun h => h.elim⟩
  | n + 1, xs => by
    refine ⟨fun h => ?_, fun h => ?_⟩
    · rw [Rd, Tryd.underlying51] at h
      obtain ⟨parts, hl, rfl, hp⟩ := h
      match parts, hl with
      | [p, q, r], _ =>
        obtain ⟨s, rfl, h1⟩ := rdSl Tryd.underlying9 (hp 0 _ p rfl rfl)
        obtain ⟨rs, rfl, h2⟩ := rd49 (hp 1 _ q rfl rfl)
        obtain ⟨ks, rfl, h3, h4⟩ := (rdT n r).2 (hp 2 _ r rfl rfl)
        refine ⟨.node s rs ks, by rw [Nd.enc]; rfl, ?_⟩
        have hm : maxLen ≤ 9223372036854775807 := by decide
        rw [lensT, h3]
        simp only [Bool.and_eq_true, decide_eq_true_eq]
        exact ⟨⟨⟨by omega, by omega⟩, by omega⟩, trivial⟩
    · rw [Rd, Tryd.underlying27] at h
      obtain ⟨ys, rfl, hq, hy⟩ := h
      have hz : Tryd.prog.cellsOf 51 = 3 := by kernel_rfl
      have : ∃ l : List Nd, ys = encL l ∧ lensL l = true := by
        clear hq
        induction ys with
        | nil => exact ⟨[], rfl, rfl⟩
        | cons y r ih =>
          obtain ⟨l, rfl, hl⟩ := ih (fun z hz => hy z (by simp [hz]))
          obtain ⟨t, rfl, ht⟩ := (rdT n y).1 (hy y (by simp))
          exact ⟨t :: l, by rw [encL], by rw [lensL, ht, hl]; rfl⟩
      obtain ⟨l, rfl, hl⟩ := this
      exact ⟨l, by rw [hz], hl, by simpa using hq⟩
/-- A world. -/
structure Wd where
  l : List Gr.Cm
  ts : List Nd
  ok : lensL ts = true
def ew (w : Wd) : List C := [.sl 2 none false (Gr.repo w.l), .sl 3 none false (encL w.ts)]
@[reducible] def VW (w : Wd) : V := .agg [.c (.sl 2 none false (Gr.repo w.l)), .c (.sl 3 none false (encL w.ts))]
theorem rd29 {n : Nat} {xs : List C} (h : Rd Tryd.prog n 29 xs) : ∃ w : Wd, xs = ew w := by
  cases n with
  | zero => exact h.elim
  | succ n =>
    rw [Rd, Tryd.underlying29] at h
    obtain ⟨parts, hl, rfl, hp⟩ := h
    match parts, hl with
    | [p, q], _ =>
      obtain ⟨l, rfl, _⟩ := rdL (z := 2) Tryd.underlying26 (by kernel_rfl) Gr.ec rd58 (hp 0 _ p rfl rfl)
      obtain ⟨ts, rfl, h1, _⟩ := (rdT n q).2 (hp 1 _ q rfl rfl)
      exact ⟨⟨l, ts, h1⟩, rfl⟩
theorem ar22 {v : V} {vl : List V} {ts : List TypeId} (h : Args Tryd.prog (22 :: ts) (v :: vl)) : (∃ l : List Rn, v = .c (.sl 4 none false (rns l))) ∧ Args Tryd.prog ts vl :=
  arC (fun l : List Rn => .sl 4 none false (rns l)) (by kernel_rfl) (fun h => (rdL Tryd.underlying22 (by kernel_rfl) en rd45 h).imp fun _ h => h.1) h
theorem ar29 {v : V} {vl : List V} {ts : List TypeId} (h : Args Tryd.prog (29 :: ts) (v :: vl)) : (∃ w : Wd, v = VW w) ∧ Args Tryd.prog ts vl := arA ew (by kernel_rfl) rd29 h
theorem f4 (w : Wd) (n : Int) (q : List UInt8) (t : Int) (v : Val) : call E 4 [VW w, V.i n, .c (.str q), V.i t, VV v] [] = some ([V.b true], []) := f4' w.l w.ts w.ok n q t v
theorem f5 (w : Wd) (n : Int) (q : List UInt8) (t : Int) : call E 5 [VW w, V.i n, .c (.str q), V.i t] [] = some ([V.b true], []) := f5' w.l w.ts w.ok n q t
theorem f6 (w : Wd) (n : Int) (q : List UInt8) (t : Int) : call E 6 [VW w, V.i n, .c (.str q), V.i t] [] = some ([V.b true], []) := f6' w.l w.ts w.ok n q t
end Go.Proofs.YtbilmkcdhodenaaDoor
