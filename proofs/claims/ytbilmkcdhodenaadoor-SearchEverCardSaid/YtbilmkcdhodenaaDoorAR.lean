/-
  This seat: arguments that read as data; what the rows' lists give of the tables.
-/
import Derived.Test.YtbilmkcdhodenaaDoorAOk
import Derived.Test.YtbilmkcdhodenaaDoorRows
import Derived.WalkKit
import Derived.ProofKit
import Derived.OpenShut
import Derived.Below
import Derived.Deep.DeepHandedRow
import Derived.Lib.LaidU8T
import Derived.PinnedBridge
set_option linter.all false
set_option linter.unusedSimpArgs false
set_option linter.unusedVariables false
namespace Go.Proofs.YtbilmkcdhodenaaDoor
open Go Go.Ev
set_option maxRecDepth 100000

theorem rdI {t : TypeId} (ht : Tryd.prog.underlying t = some (.int .i64)) {n : Nat} {xs : List C} (h : Rd Tryd.prog n t xs) : ∃ v, xs = [.int .i64 v] := by
  cases n with
  | zero => exact h.elim
  | succ n =>
    simp only [Rd, ht] at h
    obtain ⟨v, rfl, _⟩ := h
    exact ⟨v, rfl⟩
theorem rdS {t : TypeId} (ht : Tryd.prog.underlying t = some .string) {n : Nat} {xs : List C} (h : Rd Tryd.prog n t xs) : ∃ v, xs = [.str v] := by
  cases n with
  | zero => exact h.elim
  | succ n =>
    simp only [Rd, ht] at h
    obtain ⟨v, rfl, _⟩ := h
    exact ⟨v, rfl⟩
/-- A slice whose elements read as some things do. -/
theorem rdL {α : Type} {t e : TypeId} {z : Nat} (ht : Tryd.prog.underlying t = some (.slice e)) (hz : Tryd.prog.cellsOf e = z) (enc : α → List C) (he : ∀ {n : Nat} {xs : List C}, Rd Tryd.prog n e xs → ∃ a, xs = enc a) {n : Nat} {xs : List C} (h : Rd Tryd.prog n t xs) :
    ∃ l : List α, xs = [.sl z none false (l.map enc)] ∧ l.length ≤ maxLen := by
  cases n with
  | zero => exact h.elim
  | succ n =>
    simp only [Rd, ht] at h
    obtain ⟨ys, rfl, hq, hy⟩ := h
    have : ∃ l : List α, ys = l.map enc := by
      clear hq
      induction ys with
      | nil => exact ⟨[], rfl⟩
      | cons y r ih =>
        obtain ⟨l, rfl⟩ := ih (fun z hz => hy z (by simp [hz]))
        obtain ⟨c, rfl⟩ := he (hy y (by simp))
        exact ⟨c :: l, rfl⟩
    obtain ⟨l, rfl⟩ := this
    exact ⟨l, by rw [hz], by simpa using hq⟩
theorem rd32 {n : Nat} {xs : List C} (h : Rd Tryd.prog n 32 xs) : ∃ v : Val, xs = ev v := by
  cases n with
  | zero => exact h.elim
  | succ n =>
    rw [Rd, Tryd.underlying32] at h
    obtain ⟨parts, hl, rfl, hp⟩ := h
    match parts, hl with
    | [p, q, r], _ =>
      obtain ⟨k, rfl⟩ := rdI Tryd.underlying30 (hp 0 _ p rfl rfl)
      obtain ⟨m, rfl⟩ := rdI Tryd.underlying3 (hp 1 _ q rfl rfl)
      obtain ⟨s, rfl⟩ := rdS Tryd.underlying9 (hp 2 _ r rfl rfl)
      exact ⟨⟨k, m, s⟩, rfl⟩
theorem rd148 {n : Nat} {xs : List C} (h : Rd Tryd.prog n 148 xs) : ∃ r : Row, xs = er r := by
  cases n with
  | zero => exact h.elim
  | succ n =>
    rw [Rd, Tryd.underlying148] at h
    obtain ⟨parts, hl, rfl, hp⟩ := h
    match parts, hl with
    | [p, q, r], _ =>
      obtain ⟨x, rfl⟩ := rdI Tryd.underlying3 (hp 0 _ p rfl rfl)
      obtain ⟨y, rfl⟩ := rdI Tryd.underlying3 (hp 1 _ q rfl rfl)
      obtain ⟨v, rfl⟩ := rd32 (hp 2 _ r rfl rfl)
      exact ⟨⟨x, y, v⟩, rfl⟩
theorem rd49 {n : Nat} {xs : List C} (h : Rd Tryd.prog n 49 xs) : ∃ l : List Row, xs = [.sl 5 none false (rows l)] ∧ l.length ≤ maxLen :=
  rdL Tryd.underlying49 (by kernel_rfl) er rd148 h
theorem rd40 {n : Nat} {xs : List C} (h : Rd Tryd.prog n 40 xs) : ∃ l : List Int, xs = [.sl 1 none false (ints l)] ∧ l.length ≤ maxLen :=
  rdL Tryd.underlying40 (by kernel_rfl) ei (fun h => rdI Tryd.underlying3 h) h
/-- An argument that is one cell. -/
theorem arC {α : Type} {t : TypeId} (enc : α → C) (ha : aggAt Tryd.prog t = false) (he : ∀ {n : Nat} {xs : List C}, Rd Tryd.prog n t xs → ∃ a, xs = [enc a]) {v : V} {vl : List V} {ts : List TypeId} (h : Args Tryd.prog (t :: ts) (v :: vl)) : (∃ a, v = .c (enc a)) ∧ Args Tryd.prog ts vl := by
  obtain ⟨⟨n, xs, h1, e0⟩, h2⟩ := h
  subst e0
  obtain ⟨a, rfl⟩ := he h1
  refine ⟨⟨a, ?_⟩, h2⟩
  unfold argV
  rw [ha]
/-- .. that is more. -/
theorem arA {α : Type} {t : TypeId} (enc : α → List C) (ha : aggAt Tryd.prog t = true) (he : ∀ {n : Nat} {xs : List C}, Rd Tryd.prog n t xs → ∃ a, xs = enc a) {v : V} {vl : List V} {ts : List TypeId} (h : Args Tryd.prog (t :: ts) (v :: vl)) : (∃ a, v = .agg ((enc a).map .c)) ∧ Args Tryd.prog ts vl := by
  obtain ⟨⟨n, xs, h1, e0⟩, h2⟩ := h
  subst e0
  obtain ⟨a, rfl⟩ := he h1
  refine ⟨⟨a, ?_⟩, h2⟩
  unfold argV
  rw [ha]
theorem ar3 {v : V} {vl : List V} {ts : List TypeId} (h : Args Tryd.prog (3 :: ts) (v :: vl)) : (∃ n : Int, v = V.i n) ∧ Args Tryd.prog ts vl := arC (fun n => .int .i64 n) (by kernel_rfl) (fun h => rdI Tryd.underlying3 h) h
theorem ar9 {v : V} {vl : List V} {ts : List TypeId} (h : Args Tryd.prog (9 :: ts) (v :: vl)) : (∃ s : List UInt8, v = .c (.str s)) ∧ Args Tryd.prog ts vl := arC (fun n => .str n) (by kernel_rfl) (fun h => rdS Tryd.underlying9 h) h
theorem ar40 {v : V} {vl : List V} {ts : List TypeId} (h : Args Tryd.prog (40 :: ts) (v :: vl)) : (∃ l : List Int, v = .c (.sl 1 none false (ints l))) ∧ Args Tryd.prog ts vl :=
  arC (fun l => .sl 1 none false (ints l)) (by kernel_rfl) (fun h => (rd40 h).imp fun _ h => h.1) h
theorem ar32 {v : V} {vl : List V} {ts : List TypeId} (h : Args Tryd.prog (32 :: ts) (v :: vl)) : (∃ x : Val, v = VV x) ∧ Args Tryd.prog ts vl := arA ev (by kernel_rfl) rd32 h

theorem args1 {a : TypeId} {vl : List V} (h : Args Tryd.prog [a] vl) : ∃ v, vl = [v] := by
  cases vl with
  | nil => exact h.elim
  | cons v r => cases r with
    | nil => exact ⟨v, rfl⟩
    | cons _ _ => exact h.2.elim
theorem args2 {a b : TypeId} {vl : List V} (h : Args Tryd.prog [a, b] vl) : ∃ v w, vl = [v, w] := by
  cases vl with
  | nil => exact h.elim
  | cons v r => obtain ⟨w, rfl⟩ := args1 (a := b) h.2; exact ⟨v, w, rfl⟩
theorem args3 {a b c : TypeId} {vl : List V} (h : Args Tryd.prog [a, b, c] vl) : ∃ v w x, vl = [v, w, x] := by
  cases vl with
  | nil => exact h.elim
  | cons v r => obtain ⟨w, x, rfl⟩ := args2 (a := b) (b := c) h.2; exact ⟨v, w, x, rfl⟩
theorem args4 {a b c d : TypeId} {vl : List V} (h : Args Tryd.prog [a, b, c, d] vl) : ∃ v w x y, vl = [v, w, x, y] := by
  cases vl with
  | nil => exact h.elim
  | cons v r => obtain ⟨w, x, y, rfl⟩ := args3 (a := b) (b := c) (c := d) h.2; exact ⟨v, w, x, y, rfl⟩
theorem args5 {a b c d e : TypeId} {vl : List V} (h : Args Tryd.prog [a, b, c, d, e] vl) : ∃ v w x y z, vl = [v, w, x, y, z] := by
  cases vl with
  | nil => exact h.elim
  | cons v r => obtain ⟨w, x, y, z, rfl⟩ := args4 (a := b) (b := c) (c := d) (d := e) h.2; exact ⟨v, w, x, y, z, rfl⟩

/-! ## the tables -/
theorem kw_of {l : List (String × DataW Unit)} {W : World} (hA : ("unicode/utf8.acceptRanges", Rows.laid_unicode_utf8_acceptRanges) ∈ l) (hF : ("unicode/utf8.first", Rows.laid_unicode_utf8_first) ∈ l) (h : laidMet Tryd.prog l W) : Kw W := by
  have ha : Rows.laid_unicode_utf8_acceptRanges = Lib.acceptData := by kernel_rfl
  have hf : Rows.laid_unicode_utf8_first = Lib.firstData := Pinned.utf8First_eq
  have hU : Lib.Utf8Tabs 1 2 W :=
    utf8Tabs_of_readsT (ρ := Tryd.lays197_ren) { Tryd.lays197 with } ⟨by kernel_rfl, by kernel_rfl, by kernel_rfl, by kernel_rfl, by kernel_rfl, by kernel_rfl, by kernel_rfl⟩ (hf ▸ Lib.laidMet.reads h hF) (ha ▸ Lib.laidMet.reads h hA)
  refine ⟨hU, ?_⟩
  have h1 := (hU.2 0 (by omega)).1
  rcases Nat.lt_or_ge 2 W.heap.size with h2 | h2
  · exact h2
  · exfalso
    simp only [World.cell?] at h1
    rw [Array.getElem?_eq_none h2] at h1
    simp at h1
def firstCells : Obj → Obj
  | .cells _ t frozen => .cells (Lib.firstTab.map (Value.int .u8)).toArray t frozen
  | o => o
def acceptCells : Obj → Obj
  | .cells _ t frozen => .cells (((List.range 16).flatMap fun i => [Value.int .u8 (Lib.accLo i), Value.int .u8 (Lib.accHi i)])).toArray t frozen
  | o => o
/-- A world for the witness: the tables hold what the program's start lays. -/
noncomputable def laidWorld (os : Os) : World :=
  { World.holding Tryd.prog os ⟨#[], #[], []⟩ with heap := ((World.holding Tryd.prog os ⟨#[], #[], []⟩).heap.modify 1 firstCells).modify 2 acceptCells }
theorem own : ownKnob Tryd.prog.godebug = none := by kernel_rfl
end Go.Proofs.YtbilmkcdhodenaaDoor
