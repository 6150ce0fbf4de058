/-
  Chapter 13 (posting): arguments that read as postings and changes.
-/
import Derived.Test.YtbilmkcdhodenaaDoorAR
import Derived.Test.YtbilmkcdhodenaaDoorPT6
set_option linter.all false
set_option linter.unusedSimpArgs false
set_option linter.unusedVariables false
namespace Go.Proofs.YtbilmkcdhodenaaDoor
open Go Go.Ev
set_option maxRecDepth 100000

theorem rd80 {n : Nat} {xs : List C} (h : Rd Tryd.prog n 80 xs) : ∃ x : Pst, xs = eo x := by
  cases n with
  | zero => exact h.elim
  | succ n =>
    rw [Rd, Tryd.underlying80] at h
    obtain ⟨parts, hl, rfl, hp⟩ := h
    match parts, hl with
    | [p, q, r], _ =>
      obtain ⟨s, rfl⟩ := rdS Tryd.underlying9 (hp 0 _ p rfl rfl)
      obtain ⟨m, rfl⟩ := rdI Tryd.underlying3 (hp 1 _ q rfl rfl)
      obtain ⟨k, rfl⟩ := rdI Tryd.underlying67 (hp 2 _ r rfl rfl)
      exact ⟨⟨s, m, k⟩, rfl⟩
theorem rd84 {n : Nat} {xs : List C} (h : Rd Tryd.prog n 84 xs) : ∃ x : Ch, xs = ech x := by
  cases n with
  | zero => exact h.elim
  | succ n =>
    rw [Rd, Tryd.underlying84] at h
    obtain ⟨parts, hl, rfl, hp⟩ := h
    match parts, hl with
    | [p, q, r], _ =>
      obtain ⟨s, rfl⟩ := rdS Tryd.underlying9 (hp 0 _ p rfl rfl)
      obtain ⟨a, rfl, _⟩ := rd49 (hp 1 _ q rfl rfl)
      obtain ⟨b, rfl, _⟩ := rd49 (hp 2 _ r rfl rfl)
      exact ⟨⟨s, a, b⟩, rfl⟩
theorem ar66 {v : V} {vl : List V} {ts : List TypeId} (h : Args Tryd.prog (66 :: ts) (v :: vl)) : (∃ l : List Pst, v = .c (.sl 3 none false (psts l))) ∧ Args Tryd.prog ts vl :=
  arC (fun l : List Pst => .sl 3 none false (psts l)) (by kernel_rfl) (fun h => (rdL Tryd.underlying66 (by kernel_rfl) eo rd80 h).imp fun _ h => h.1) h
theorem ar82 {v : V} {vl : List V} {ts : List TypeId} (h : Args Tryd.prog (82 :: ts) (v :: vl)) : (∃ l : List Ch, v = .c (.sl 3 none false (chs l))) ∧ Args Tryd.prog ts vl :=
  arC (fun l : List Ch => .sl 3 none false (chs l)) (by kernel_rfl) (fun h => (rdL Tryd.underlying82 (by kernel_rfl) ech rd84 h).imp fun _ h => h.1) h
theorem ar67 {v : V} {vl : List V} {ts : List TypeId} (h : Args Tryd.prog (67 :: ts) (v :: vl)) : (∃ n : Int, v = V.i n) ∧ Args Tryd.prog ts vl := arC (fun n => .int .i64 n) (by kernel_rfl) (fun h => rdI Tryd.underlying67 h) h
end Go.Proofs.YtbilmkcdhodenaaDoor
