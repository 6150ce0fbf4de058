/-
  Chapter 02 (span): arguments that read as data are rows and pieces; what the rows' list gives of the tables.
-/
import Derived.Test.YtedniogmjhhhmaaDoorSL3
import Derived.Test.YtedniogmjhhhmaaDoorRows
import Derived.WalkKit
import Derived.ProofKit
import Derived.OpenShut
import Derived.Below
import Derived.Deep.DeepHandedRow
import Derived.Lib.LaidU8T
import Derived.PinnedBridge
set_option linter.all false
set_option linter.unusedSimpArgs false
set_option linter.unusedVariables false
namespace Go.Proofs.YtedniogmjhhhmaaDoor
open Go Go.Ev
set_option maxRecDepth 100000

theorem rdI {t : TypeId} (ht : Tryd.prog.underlying t = some (.int .i64)) {n : Nat} {xs : List C} (h : Rd Tryd.prog (n + 1) t xs) : ∃ v, xs = [.int .i64 v] := by
  simp only [Rd, ht] at h
  obtain ⟨v, rfl, _⟩ := h
  exact ⟨v, rfl⟩
theorem rdS {t : TypeId} (ht : Tryd.prog.underlying t = some .string) {n : Nat} {xs : List C} (h : Rd Tryd.prog (n + 1) t xs) : ∃ v, xs = [.str v] := by
  simp only [Rd, ht] at h
  obtain ⟨v, rfl, _⟩ := h
  exact ⟨v, rfl⟩
theorem rd29 {n : Nat} {xs : List C} (h : Rd Tryd.prog (n + 2) 29 xs) : ∃ v : Val, xs = ev v := by
  rw [Rd, Tryd.underlying29] at h
  obtain ⟨parts, hl, rfl, hp⟩ := h
  match parts, hl with
  | [p, q, r], _ =>
    obtain ⟨k, rfl⟩ := rdI Tryd.underlying27 (hp 0 _ p rfl rfl)
    obtain ⟨m, rfl⟩ := rdI Tryd.underlying3 (hp 1 _ q rfl rfl)
    obtain ⟨s, rfl⟩ := rdS Tryd.underlying9 (hp 2 _ r rfl rfl)
    exact ⟨⟨k, m, s⟩, rfl⟩
theorem rd33 {n : Nat} {xs : List C} (h : Rd Tryd.prog (n + 3) 33 xs) : ∃ r : Row, xs = er r := by
  rw [Rd, Tryd.underlying33] at h
  obtain ⟨parts, hl, rfl, hp⟩ := h
  match parts, hl with
  | [p, q, r], _ =>
    obtain ⟨x, rfl⟩ := rdI Tryd.underlying3 (hp 0 _ p rfl rfl)
    obtain ⟨y, rfl⟩ := rdI Tryd.underlying3 (hp 1 _ q rfl rfl)
    obtain ⟨v, rfl⟩ := rd29 (hp 2 _ r rfl rfl)
    exact ⟨⟨x, y, v⟩, rfl⟩
theorem rd37 {n : Nat} {xs : List C} (h : Rd Tryd.prog (n + 3) 37 xs) : ∃ r : Piece, xs = ep r := by
  rw [Rd, Tryd.underlying37] at h
  obtain ⟨parts, hl, rfl, hp⟩ := h
  match parts, hl with
  | [p, q, r, s], _ =>
    obtain ⟨x, rfl⟩ := rdI Tryd.underlying3 (hp 0 _ p rfl rfl)
    obtain ⟨y, rfl⟩ := rdI Tryd.underlying3 (hp 1 _ q rfl rfl)
    obtain ⟨v, rfl⟩ := rd29 (hp 2 _ r rfl rfl)
    obtain ⟨w, rfl⟩ := rd29 (hp 3 _ s rfl rfl)
    exact ⟨⟨x, y, v, w⟩, rfl⟩
theorem rd22 {n : Nat} {xs : List C} (h : Rd Tryd.prog (n + 4) 22 xs) : ∃ l : List Row, xs = [.sl 5 none false (rows l)] := by
  rw [Rd, Tryd.underlying22] at h
  obtain ⟨ys, rfl, hq, hy⟩ := h
  have hc : Tryd.prog.cellsOf 33 = 5 := by kernel_rfl
  have : ∃ l : List Row, ys = rows l := by
    clear hc hq
    induction ys with
    | nil => exact ⟨[], rfl⟩
    | cons y r ih =>
      obtain ⟨l, rfl⟩ := ih (fun z hz => hy z (by simp [hz]))
      obtain ⟨c, rfl⟩ := rd33 (hy y (by simp))
      exact ⟨c :: l, rfl⟩
  obtain ⟨l, rfl⟩ := this
  exact ⟨l, by rw [hc]⟩
theorem rd34 {n : Nat} {xs : List C} (h : Rd Tryd.prog (n + 4) 34 xs) : ∃ l : List Piece, xs = [.sl 8 none false (pcs l)] := by
  rw [Rd, Tryd.underlying34] at h
  obtain ⟨ys, rfl, hq, hy⟩ := h
  have hc : Tryd.prog.cellsOf 37 = 8 := by kernel_rfl
  have : ∃ l : List Piece, ys = pcs l := by
    clear hc hq
    induction ys with
    | nil => exact ⟨[], rfl⟩
    | cons y r ih =>
      obtain ⟨l, rfl⟩ := ih (fun z hz => hy z (by simp [hz]))
      obtain ⟨c, rfl⟩ := rd37 (hy y (by simp))
      exact ⟨c :: l, rfl⟩
  obtain ⟨l, rfl⟩ := this
  exact ⟨l, by rw [hc]⟩
/-- The argument at a type. -/
theorem ar22 {v : V} {vl : List V} {ts : List TypeId} (h : Args Tryd.prog 8 (22 :: ts) (v :: vl)) : (∃ l : List Row, v = .c (.sl 5 none false (rows l))) ∧ Args Tryd.prog 8 ts vl := by
  obtain ⟨⟨xs, h1, e0⟩, h2⟩ := h
  subst e0
  obtain ⟨l, rfl⟩ := rd22 h1
  refine ⟨⟨l, ?_⟩, h2⟩
  unfold argV
  rw [show aggAt Tryd.prog 22 = false by kernel_rfl]
theorem ar34 {v : V} {vl : List V} {ts : List TypeId} (h : Args Tryd.prog 8 (34 :: ts) (v :: vl)) : (∃ l : List Piece, v = .c (.sl 8 none false (pcs l))) ∧ Args Tryd.prog 8 ts vl := by
  obtain ⟨⟨xs, h1, e0⟩, h2⟩ := h
  subst e0
  obtain ⟨l, rfl⟩ := rd34 h1
  refine ⟨⟨l, ?_⟩, h2⟩
  unfold argV
  rw [show aggAt Tryd.prog 34 = false by kernel_rfl]
theorem ar3 {v : V} {vl : List V} {ts : List TypeId} (h : Args Tryd.prog 8 (3 :: ts) (v :: vl)) : (∃ n : Int, v = V.i n) ∧ Args Tryd.prog 8 ts vl := by
  obtain ⟨⟨xs, h1, e0⟩, h2⟩ := h
  subst e0
  obtain ⟨n, rfl⟩ := rdI Tryd.underlying3 h1
  refine ⟨⟨n, ?_⟩, h2⟩
  unfold argV
  rw [show aggAt Tryd.prog 3 = false by kernel_rfl]
theorem ar29 {v : V} {vl : List V} {ts : List TypeId} (h : Args Tryd.prog 8 (29 :: ts) (v :: vl)) : (∃ x : Val, v = VV x) ∧ Args Tryd.prog 8 ts vl := by
  obtain ⟨⟨xs, h1, e0⟩, h2⟩ := h
  subst e0
  obtain ⟨x, rfl⟩ := rd29 h1
  refine ⟨⟨x, ?_⟩, h2⟩
  unfold argV
  rw [show aggAt Tryd.prog 29 = true by kernel_rfl]
  rfl

theorem args1 {a : TypeId} {vl : List V} (h : Args Tryd.prog 8 [a] vl) : ∃ v, vl = [v] := by
  cases vl with
  | nil => exact h.elim
  | cons v r => cases r with
    | nil => exact ⟨v, rfl⟩
    | cons _ _ => exact h.2.elim
theorem args2 {a b : TypeId} {vl : List V} (h : Args Tryd.prog 8 [a, b] vl) : ∃ v w, vl = [v, w] := by
  cases vl with
  | nil => exact h.elim
  | cons v r => obtain ⟨w, rfl⟩ := args1 (a := b) h.2; exact ⟨v, w, rfl⟩
theorem args3 {a b c : TypeId} {vl : List V} (h : Args Tryd.prog 8 [a, b, c] vl) : ∃ v w x, vl = [v, w, x] := by
  cases vl with
  | nil => exact h.elim
  | cons v r => obtain ⟨w, x, rfl⟩ := args2 (a := b) (b := c) h.2; exact ⟨v, w, x, rfl⟩
theorem args4 {a b c d : TypeId} {vl : List V} (h : Args Tryd.prog 8 [a, b, c, d] vl) : ∃ v w x y, vl = [v, w, x, y] := by
  cases vl with
  | nil => exact h.elim
  | cons v r => obtain ⟨w, x, y, rfl⟩ := args3 (a := b) (b := c) (c := d) h.2; exact ⟨v, w, x, y, rfl⟩
theorem args5 {a b c d e : TypeId} {vl : List V} (h : Args Tryd.prog 8 [a, b, c, d, e] vl) : ∃ v w x y z, vl = [v, w, x, y, z] := by
  cases vl with
  | nil => exact h.elim
  | cons v r => obtain ⟨w, x, y, z, rfl⟩ := args4 (a := b) (b := c) (c := d) (d := e) h.2; exact ⟨v, w, x, y, z, rfl⟩

/-! ## the tables -/
theorem kw_of {l : List (String × DataW Unit)} {W : World} (hA : ("unicode/utf8.acceptRanges", Rows.laid_unicode_utf8_acceptRanges) ∈ l) (hF : ("unicode/utf8.first", Rows.laid_unicode_utf8_first) ∈ l) (h : laidMet Tryd.prog l W) : Kw W := by
  have ha : Rows.laid_unicode_utf8_acceptRanges = Lib.acceptData := by kernel_rfl
  have hf : Rows.laid_unicode_utf8_first = Lib.firstData := Pinned.utf8First_eq
  have hU : Lib.Utf8Tabs 0 1 W :=
    utf8Tabs_of_readsT (ρ := Tryd.lays197_ren) { Tryd.lays197 with } ⟨by kernel_rfl, by kernel_rfl, by kernel_rfl, by kernel_rfl, by kernel_rfl, by kernel_rfl, by kernel_rfl⟩ (hf ▸ Lib.laidMet.reads h hF) (ha ▸ Lib.laidMet.reads h hA)
  refine ⟨hU, ?_⟩
  have h1 := (hU.2 0 (by omega)).1
  rcases Nat.lt_or_ge 1 W.heap.size with h2 | h2
  · exact h2
  · exfalso
    simp only [World.cell?] at h1
    rw [Array.getElem?_eq_none h2] at h1
    simp at h1
def firstCells : Obj → Obj
  | .cells _ t frozen => .cells (Lib.firstTab.map (Value.int .u8)).toArray t frozen
  | o => o
def acceptCells : Obj → Obj
  | .cells _ t frozen => .cells (((List.range 16).flatMap fun i => [Value.int .u8 (Lib.accLo i), Value.int .u8 (Lib.accHi i)])).toArray t frozen
  | o => o
/-- A world for the witness: the tables hold what the program's start lays. -/
noncomputable def laidWorld (os : Os) : World :=
  { World.holding Tryd.prog os ⟨#[], #[], []⟩ with heap := ((World.holding Tryd.prog os ⟨#[], #[], []⟩).heap.modify 0 firstCells).modify 1 acceptCells }
theorem own : ownKnob Tryd.prog.godebug = none := by kernel_rfl
end Go.Proofs.YtedniogmjhhhmaaDoor
