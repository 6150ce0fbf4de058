/-
  Chapter 12 (graph): arguments that read vl data are commits.
-/
import Derived.Test.YtkdinelcmanfcaaGL2
import Derived.Test.YtkdinelcmanfcaaRows
set_option linter.unusedSimpArgs false
set_option linter.unusedVariables false
namespace Go.Proofs.Ytkdinelcmanfcaa
open Go Go.Ev

theorem rd3 {n : Nat} {xs : List C} (h : Rd Try.prog (n + 1) 3 xs) : ∃ v, xs = [.int .i64 v] := by
  simp only [Rd, Try.underlying3] at h
  obtain ⟨v, rfl, _⟩ := h
  exact ⟨v, rfl⟩
theorem rd27 {n : Nat} {xs : List C} (h : Rd Try.prog (n + 2) 27 xs) : ∃ l : List Int, xs = [.sl 1 none false (ints l)] := by
  rw [Rd, Try.underlying27] at h
  obtain ⟨ys, rfl, hq, hy⟩ := h
  have hc : Try.prog.cellsOf 3 = 1 := by kernel_rfl
  have : ∃ l : List Int, ys = ints l := by
    clear hc hq
    induction ys with
    | nil => exact ⟨[], rfl⟩
    | cons y r ih =>
      obtain ⟨l, rfl⟩ := ih (fun z hz => hy z (by simp [hz]))
      obtain ⟨v, rfl⟩ := rd3 (hy y (by simp))
      exact ⟨v :: l, rfl⟩
  obtain ⟨l, rfl⟩ := this
  exact ⟨l, by rw [hc]⟩
theorem rd29 {n : Nat} {xs : List C} (h : Rd Try.prog (n + 3) 29 xs) : ∃ c : Cm, xs = ec c := by
  rw [Rd, Try.underlying29] at h
  obtain ⟨parts, hl, rfl, hp⟩ := h
  match parts, hl with
  | [p, q], _ =>
    obtain ⟨l, rfl⟩ := rd27 (hp 0 _ p rfl rfl)
    obtain ⟨v, rfl⟩ := rd3 (hp 1 _ q rfl rfl)
    exact ⟨(l, v), rfl⟩
theorem rd22 {n : Nat} {xs : List C} (h : Rd Try.prog (n + 4) 22 xs) : ∃ l : List Cm, xs = [.sl 2 none false (repo l)] := by
  rw [Rd, Try.underlying22] at h
  obtain ⟨ys, rfl, hq, hy⟩ := h
  have hc : Try.prog.cellsOf 29 = 2 := by kernel_rfl
  have : ∃ l : List Cm, ys = repo l := by
    clear hc hq
    induction ys with
    | nil => exact ⟨[], rfl⟩
    | cons y r ih =>
      obtain ⟨l, rfl⟩ := ih (fun z hz => hy z (by simp [hz]))
      obtain ⟨c, rfl⟩ := rd29 (hy y (by simp))
      exact ⟨c :: l, rfl⟩
  obtain ⟨l, rfl⟩ := this
  exact ⟨l, by rw [hc]⟩
theorem arg3 (v : Int) : argV Try.prog 3 [.int .i64 v] = V.i v := by
  unfold argV
  rw [show aggAt Try.prog 3 = false by kernel_rfl]
theorem arg22 (l : List Cm) : argV Try.prog 22 [.sl 2 none false (repo l)] = .c (.sl 2 none false (repo l)) := by
  unfold argV
  rw [show aggAt Try.prog 22 = false by kernel_rfl]
theorem arg29 (c : Cm) : argV Try.prog 29 (ec c) = .agg [.c (.sl 1 none false (ints c.1)), V.i c.2] := by
  unfold argV
  rw [show aggAt Try.prog 29 = true by kernel_rfl]
  rfl
theorem main_ints (k : Nat) {ts : List TypeId} (hts : ts = List.replicate k 3) : ∀ {vl : List V}, Args Try.prog 8 ts vl → ∃ vs : List Int, vs.length = k ∧ vl = vs.map V.i := by
  subst hts
  induction k with
  | zero =>
    intro vl h
    match vl, h with
    | [], _ => exact ⟨[], rfl, rfl⟩
  | succ k ih =>
    intro vl h
    match vl, h with
    | a :: vl, ⟨⟨xs, h1, e0⟩, h2⟩ =>
      subst e0
      obtain ⟨v, rfl⟩ := rd3 h1
      obtain ⟨vs, e1, rfl⟩ := ih h2
      exact ⟨v :: vs, by simp [e1], by rw [arg3]; rfl⟩
end Go.Proofs.Ytkdinelcmanfcaa
