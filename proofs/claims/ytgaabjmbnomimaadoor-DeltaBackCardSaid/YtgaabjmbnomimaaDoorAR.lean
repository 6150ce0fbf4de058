/-
  This seat: arguments that read as data; what the rows' lists give of the tables; Arguments that read as tries, rows; Radix trees: trees, written by a program: what a walk hands over, where all is wanted; Radix trees: what a walk hands over, where all is wanted; Radix trees: trees, written by a program: Entries; Radix trees: Entries; Trees, written by a program: what is the same: rows, tries, entries, texts; What is the same: rows, tries, entries, texts; Chapter 11 (delta), trees, written by a program: what comes of a path; right trees; sides; Chapter 11 (delta), trees, written by a program: wh.
-/
import Derived.Test.YtgaabjmbnomimaaDoorRows
import Derived.WalkKit
import Derived.ProofKit
import Derived.OpenShut
import Derived.Below
import Derived.Deep.DeepHandedRow
import Derived.Lib.LaidU8T
import Derived.PinnedBridge
import Derived.Test.YtgaabjmbnomimaaDoorRP1
set_option linter.all false
namespace Go.Proofs.YtgaabjmbnomimaaDoor
open Go Go.Ev
set_option maxRecDepth 100000
theorem rdI {t : TypeId} (ht : Tryd.prog.underlying t = some (.int .i64)) {n : Nat} {xs : List C} (h : Rd Tryd.prog n t xs) : ∃ v, xs = [.int .i64 v] := by
  cases n with
  | zero => exact h.elim
  | succ n =>
    simp only [Rd, ht] at h
    obtain ⟨v, rfl, _⟩ := h
    exact ⟨v, rfl⟩
theorem rdS {t : TypeId} (ht : Tryd.prog.underlying t = some .string) {n : Nat} {xs : List C} (h : Rd Tryd.prog n t xs) : ∃ v, xs = [.str v] := by
  cases n with
  | zero => exact h.elim
  | succ n =>
    simp only [Rd, ht] at h
    obtain ⟨v, rfl, _⟩ := h
    exact ⟨v, rfl⟩
/-- A slice whose elements read as some things do. -/
theorem rdL {α : Type} {t e : TypeId} {z : Nat} (ht : Tryd.prog.underlying t = some (.slice e)) (hz : Tryd.prog.cellsOf e = z) (enc : α → List C) (he : ∀ {n : Nat} {xs : List C}, Rd Tryd.prog n e xs → ∃ a, xs = enc a) {n : Nat} {xs : List C} (h : Rd Tryd.prog n t xs) :
    ∃ l : List α, xs = [.sl z none false (l.map enc)] ∧ l.length ≤ maxLen := by
  cases n with
  | zero => exact h.elim
  | succ n =>
    simp only [Rd, ht] at h
    obtain ⟨ys, rfl, hq, hy⟩ := h
    have : ∃ l : List α, ys = l.map enc := by
      clear hq
      induction ys with
      | nil => exact ⟨[], rfl⟩
      | cons y r ih =>
        obtain ⟨l, rfl⟩ := ih (fun z hz => hy z (by simp [hz]))
        obtain ⟨c, rfl⟩ := he (hy y (by simp))
        exact ⟨c :: l, rfl⟩
    obtain ⟨l, rfl⟩ := this
    exact ⟨l, by rw [hz], by simpa using hq⟩
theorem rdVal {n : Nat} {xs : List C} (h : Rd Tryd.prog n 100 xs) : ∃ v : Val, xs = ev v := by
  cases n with
  | zero => exact h.elim
  | succ n =>
    rw [Rd, Tryd.underlying100] at h
    obtain ⟨parts, hl, rfl, hp⟩ := h
    match parts, hl with
    | [p, q, r], _ =>
      obtain ⟨k, rfl⟩ := rdI Tryd.underlying98 (hp 0 _ p rfl rfl)
      obtain ⟨m, rfl⟩ := rdI Tryd.underlying3 (hp 1 _ q rfl rfl)
      obtain ⟨s, rfl⟩ := rdS Tryd.underlying9 (hp 2 _ r rfl rfl)
      exact ⟨⟨k, m, s⟩, rfl⟩
theorem rdRow {n : Nat} {xs : List C} (h : Rd Tryd.prog n 102 xs) : ∃ r : Row, xs = er r := by
  cases n with
  | zero => exact h.elim
  | succ n =>
    rw [Rd, Tryd.underlying102] at h
    obtain ⟨parts, hl, rfl, hp⟩ := h
    match parts, hl with
    | [p, q, r], _ =>
      obtain ⟨x, rfl⟩ := rdI Tryd.underlying3 (hp 0 _ p rfl rfl)
      obtain ⟨y, rfl⟩ := rdI Tryd.underlying3 (hp 1 _ q rfl rfl)
      obtain ⟨v, rfl⟩ := rdVal (hp 2 _ r rfl rfl)
      exact ⟨⟨x, y, v⟩, rfl⟩
theorem rdRows {n : Nat} {xs : List C} (h : Rd Tryd.prog n 29 xs) : ∃ l : List Row, xs = [.sl 5 none false (rows l)] ∧ l.length ≤ maxLen :=
  rdL Tryd.underlying29 (by kernel_rfl) er rdRow h
/-- .. that is more. -/
theorem arA {α : Type} {t : TypeId} (enc : α → List C) (ha : aggAt Tryd.prog t = true) (he : ∀ {n : Nat} {xs : List C}, Rd Tryd.prog n t xs → ∃ a, xs = enc a) {v : V} {vl : List V} {ts : List TypeId} (h : Args Tryd.prog (t :: ts) (v :: vl)) : (∃ a, v = .agg ((enc a).map .c)) ∧ Args Tryd.prog ts vl := by
  obtain ⟨⟨n, xs, h1, e0⟩, h2⟩ := h
  subst e0
  obtain ⟨a, rfl⟩ := he h1
  refine ⟨⟨a, ?_⟩, h2⟩
  unfold argV
  rw [ha]
theorem args1 {a : TypeId} {vl : List V} (h : Args Tryd.prog [a] vl) : ∃ v, vl = [v] := by
  cases vl with
  | nil => exact h.elim
  | cons v r => cases r with
    | nil => exact ⟨v, rfl⟩
    | cons _ _ => exact h.2.elim
theorem args2 {a b : TypeId} {vl : List V} (h : Args Tryd.prog [a, b] vl) : ∃ v w, vl = [v, w] := by
  cases vl with
  | nil => exact h.elim
  | cons v r => obtain ⟨w, rfl⟩ := args1 (a := b) h.2; exact ⟨v, w, rfl⟩
theorem kw_of {l : List (String × DataW Unit)} {W : World} (hA : ("unicode/utf8.acceptRanges", Rows.laid_unicode_utf8_acceptRanges) ∈ l) (hF : ("unicode/utf8.first", Rows.laid_unicode_utf8_first) ∈ l) (h : laidMet Tryd.prog l W) : Kw W := by
  have ha : Rows.laid_unicode_utf8_acceptRanges = Lib.acceptData := by kernel_rfl
  have hf : Rows.laid_unicode_utf8_first = Lib.firstData := Pinned.utf8First_eq
  have hU : Lib.Utf8Tabs 1 2 W :=
    utf8Tabs_of_readsT (ρ := Tryd.lays197_ren) { Tryd.lays197 with } ⟨by kernel_rfl, by kernel_rfl, by kernel_rfl, by kernel_rfl, by kernel_rfl, by kernel_rfl, by kernel_rfl⟩ (hf ▸ Lib.laidMet.reads h hF) (ha ▸ Lib.laidMet.reads h hA)
  refine ⟨hU, ?_⟩
  have h1 := (hU.2 0 (by omega)).1
  rcases Nat.lt_or_ge 2 W.heap.size with h2 | h2
  · exact h2
  · exfalso
    simp only [World.cell?] at h1
    rw [Array.getElem?_eq_none h2] at h1
    simp at h1
def firstCells : Obj → Obj
  | .cells _ t frozen => .cells (Lib.firstTab.map (Value.int .u8)).toArray t frozen
  | o => o
def acceptCells : Obj → Obj
  | .cells _ t frozen => .cells (((List.range 16).flatMap fun i => [Value.int .u8 (Lib.accLo i), Value.int .u8 (Lib.accHi i)])).toArray t frozen
  | o => o
/-- A world for the witness: the tables hold what the program's start lays. -/
noncomputable def laidWorld (os : Os) : World :=
  { World.holding Tryd.prog os ⟨#[], #[], []⟩ with heap := ((World.holding Tryd.prog os ⟨#[], #[], []⟩).heap.modify 1 firstCells).modify 2 acceptCells }
theorem own : ownKnob Tryd.prog.godebug = none := by kernel_rfl
end Go.Proofs.YtgaabjmbnomimaaDoor
namespace Go.Proofs.YtgaabjmbnomimaaDoor
open Go Go.Ev
set_option maxRecDepth 100000
theorem rdSl {t : TypeId} (ht : Tryd.prog.underlying t = some .string) {n : Nat} {xs : List C} (h : Rd Tryd.prog n t xs) : ∃ v : List UInt8, xs = [.str v] ∧ v.length ≤ maxLen := by
  cases n with
  | zero => exact h.elim
  | succ n =>
    simp only [Rd, ht] at h
    exact h
theorem rdT : ∀ (n : Nat) (xs : List C), (Rd Tryd.prog n 31 xs → ∃ t : Nd, xs = t.enc ∧ lensT t = true) ∧ (Rd Tryd.prog n 23 xs → ∃ ks : List Nd, xs = [.sl 3 none false (encL ks)] ∧ lensL ks = true ∧ ks.length ≤ maxLen)
  | 0, xs => ⟨fun h => h.elim, fun h => h.elim⟩
  | n + 1, xs => by
    refine ⟨fun h => ?_, fun h => ?_⟩
    · rw [Rd, Tryd.underlying31] at h
      obtain ⟨parts, hl, rfl, hp⟩ := h
      match parts, hl with
      | [p, q, r], _ =>
        obtain ⟨s, rfl, h1⟩ := rdSl Tryd.underlying9 (hp 0 _ p rfl rfl)
        obtain ⟨rs, rfl, h2⟩ := rdRows (hp 1 _ q rfl rfl)
        obtain ⟨ks, rfl, h3, h4⟩ := (rdT n r).2 (hp 2 _ r rfl rfl)
        refine ⟨.node s rs ks, by rw [Nd.enc]; rfl, ?_⟩
        have hm : maxLen ≤ 9223372036854775807 := by decide
        rw [lensT, h3]
        simp only [Bool.and_eq_true, decide_eq_true_eq]
        exact ⟨⟨⟨by omega, by omega⟩, by omega⟩, trivial⟩
    · rw [Rd, Tryd.underlying23] at h
      obtain ⟨ys, rfl, hq, hy⟩ := h
      have hz : Tryd.prog.cellsOf 31 = 3 := by kernel_rfl
      have : ∃ l : List Nd, ys = encL l ∧ lensL l = true := by
        clear hq
        induction ys with
        | nil => exact ⟨[], rfl, rfl⟩
        | cons y r ih =>
          obtain ⟨l, rfl, hl⟩ := ih (fun z hz => hy z (by simp [hz]))
          obtain ⟨t, rfl, ht⟩ := (rdT n y).1 (hy y (by simp))
          exact ⟨t :: l, by rw [encL], by rw [lensL, ht, hl]; rfl⟩
      obtain ⟨l, rfl, hl⟩ := this
      exact ⟨l, by rw [hz], hl, by simpa using hq⟩
/-- A tree that is an argument. -/
structure Lt where
  t : Nd
  ok : lensT t = true
theorem rd31 {n : Nat} {xs : List C} (h : Rd Tryd.prog n 31 xs) : ∃ x : Lt, xs = x.t.enc := by
  obtain ⟨t, h1, h2⟩ := (rdT n xs).1 h
  exact ⟨⟨t, h2⟩, h1⟩
theorem enc_VT (t : Nd) : V.agg (t.enc.map .c) = VT t := by rw [Nd.enc_eq]; rfl
theorem ar31 {v : V} {vl : List V} {ts : List TypeId} (h : Args Tryd.prog (31 :: ts) (v :: vl)) : (∃ x : Lt, v = VT x.t) ∧ Args Tryd.prog ts vl := by
  obtain ⟨⟨x, h1⟩, h2⟩ := arA (fun x : Lt => x.t.enc) (by kernel_rfl) rd31 h
  exact ⟨⟨x, by rw [h1, enc_VT]⟩, h2⟩
end Go.Proofs.YtgaabjmbnomimaaDoor
namespace Go.Proofs.YtgaabjmbnomimaaDoor
open Go Go.Ev
-- cse
set_option pp.deepTerms true
set_option pp.maxSteps 1000000
set_option pp.funBinderTypes true
set_option pp.coercions.types true
def s134 : CSpec := fun a h => match a, h with
  | [.agg [.c (.str s), .c (.sl 5 rn rt xs), .c (.sl 3 kn kt ys)], .c (.str q), .fn 82 []], [] => some ([], [.fn 166 [.ptr 1 0 0 0, .ptr 0 0 0 0, .ptr 2 0 0 0]], [.box [.c (.str s), .c (.sl 5 rn rt xs), .c (.sl 3 kn kt ys)], .box [.c (.str q)], .box [.fn 82 []]])
  | _, _ => none
noncomputable abbrev p166 : Par := par E sh (ctOf [(82, s82), (68, s68), (134, s134)]) 166 4 4
abbrev s166_0 (q : List UInt8) (s : List UInt8) (rn : Option Bool) (rt : Bool) (xs : List (List C)) (kn : Option Bool) (kt : Bool) (ys : List (List C)) (r : List (List V)) (b : Bool) (s5 : List UInt8) (i33 : Int) (i34 : Int) : Fr × Hp := ([(3, V.ptr 2 0 0 0), (4, V.ptr 4 0 0 0), (5, V.c (C.str s5)), (32, V.c (C.sl 3 kn kt ys)), (33, V.c (C.int IntKind.i64 i33)), (34, V.c (C.int IntKind.i64 i34))], [O.box [V.c (C.str q)], O.box [V.c (C.str s), V.c (C.sl 5 rn rt xs), V.c (C.sl 3 kn kt ys)], O.box [V.fn 82 []], O.yo r.tail b, O.box [V.yl 3]])
abbrev s166_0v (q : List UInt8) (s : List UInt8) (rn : Option Bool) (rt : Bool) (xs : List (List C)) (kn : Option Bool) (kt : Bool) (ys : List (List C)) (r : List (List V)) (b : Bool) (s5 : List UInt8) (i33 : Int) (i34 : Int) : Fr × Hp := ([(3, V.ptr 2 0 0 0), (4, V.ptr 4 0 0 0), (5, V.c (C.str s5)), (32, V.c (C.sl 3 kn kt ys)), (33, V.c (C.int IntKind.i64 i33)), (34, V.c (C.int IntKind.i64 i34))], [O.box [V.c (C.str q)], O.box [V.c (C.str s), V.c (C.sl 5 rn rt xs), V.c (C.sl 3 kn kt ys)], O.box [V.fn 82 []], O.yo r b, O.box [V.yl 3]])
noncomputable abbrev b166_0v : Code := loopAt (codeOf E (166)) 0
abbrev s166_0v_0 (q : List UInt8) (s : List UInt8) (rn : Option Bool) (rt : Bool) (xs : List (List C)) (kn : Option Bool) (kt : Bool) (ys : List (List C)) (r : List (List V)) (b : Bool) (s5 : List UInt8) (i33 : Int) (i34 : Int) (sh5 : List UInt8) (nlh5 : Option Bool) (th5 : Bool) (xsh5 : List (List C)) (nlh5_1 : Option Bool) (th5_1 : Bool) (xsh5_1 : List (List C)) : Fr × Hp := ([(3, V.ptr 2 0 0 0), (4, V.ptr 4 0 0 0), (5, V.c (C.str s5)), (32, V.c (C.sl 3 kn kt ys)), (33, V.c (C.int IntKind.i64 i33)), (34, V.c (C.int IntKind.i64 i34)), (41, V.fn 166 [V.ptr 6 0 0 0, V.ptr 5 0 0 0, V.ptr 7 0 0 0])], [O.box [V.c (C.str q)], O.box [V.c (C.str s), V.c (C.sl 5 rn rt xs), V.c (C.sl 3 kn kt ys)], O.box [V.fn 82 []], O.yo r b, O.box [V.yl 3], O.box [V.c (C.str sh5), V.c (C.sl 5 nlh5 th5 xsh5), V.c (C.sl 3 nlh5_1 th5_1 xsh5_1)], O.box [V.c (C.str s5)], O.box [V.fn 82 []]])
noncomputable abbrev b166_0v_0 : Code := loopAt b166_0v 0
abbrev g166_0v_0 (q : List UInt8) (s : List UInt8) (rn : Option Bool) (rt : Bool) (xs : List (List C)) (kn : Option Bool) (kt : Bool) (ys : List (List C)) (r : List (List V)) (b : Bool) (s5 : List UInt8) (i33 : Int) (i34 : Int) : Fr × Hp := ([(3, V.ptr 2 0 0 0), (4, V.ptr 4 0 0 0), (5, V.c (C.str s5)), (32, V.c (C.sl 3 kn kt ys)), (33, V.c (C.int IntKind.i64 i33)), (34, V.c (C.int IntKind.i64 i34)), (41, V.fn 166 [V.ptr 6 0 0 0, V.ptr 5 0 0 0, V.ptr 7 0 0 0])], [O.box [V.c (C.str q)], O.box [V.c (C.str s), V.c (C.sl 5 rn rt xs), V.c (C.sl 3 kn kt ys)], O.box [V.fn 82 []], O.yo r b, O.box [V.yl 3], O.gone, O.gone, O.gone])
abbrev x166_0v_0x0 (q : List UInt8) (s : List UInt8) (rn : Option Bool) (rt : Bool) (xs : List (List C)) (kn : Option Bool) (kt : Bool) (ys : List (List C)) (r : List (List V)) (b : Bool) (s5 : List UInt8) (i33 : Int) (i34 : Int) (p : List UInt8) (zs : List (List C)) (nlh8 : Option Bool) : Ex × Fr × Hp := (Ex.ret, [(3, V.ptr 2 0 0 0), (4, V.ptr 4 0 0 0), (5, V.c (C.str s5)), (32, V.c (C.sl 3 kn kt ys)), (33, V.c (C.int IntKind.i64 i33)), (34, V.c (C.int IntKind.i64 i34)), (41, V.fn 166 [V.ptr 6 0 0 0, V.ptr 5 0 0 0, V.ptr 7 0 0 0])], [O.box [V.c (C.str q)], O.box [V.c (C.str s), V.c (C.sl 5 rn rt xs), V.c (C.sl 3 kn kt ys)], O.box [V.fn 82 []], O.yo r.tail b, O.box [V.yl 3], O.gone, O.gone, O.gone, O.box [V.c (C.str p), V.c (C.sl 5 nlh8 false zs)]])
abbrev x166_0v_0n (q : List UInt8) (s : List UInt8) (rn : Option Bool) (rt : Bool) (xs : List (List C)) (kn : Option Bool) (kt : Bool) (ys : List (List C)) (r : List (List V)) (b : Bool) (s5 : List UInt8) (i33 : Int) (i34 : Int) : Ex × Fr × Hp := (Ex.nrm, [(3, V.ptr 2 0 0 0), (4, V.ptr 4 0 0 0), (5, V.c (C.str s5)), (32, V.c (C.sl 3 kn kt ys)), (33, V.c (C.int IntKind.i64 i33)), (34, V.c (C.int IntKind.i64 i34)), (41, V.fn 166 [V.ptr 6 0 0 0, V.ptr 5 0 0 0, V.ptr 7 0 0 0])], [O.box [V.c (C.str q)], O.box [V.c (C.str s), V.c (C.sl 5 rn rt xs), V.c (C.sl 3 kn kt ys)], O.box [V.fn 82 []], O.yo r b, O.box [V.yl 3], O.gone, O.gone, O.gone])
abbrev x166_0vx0 (q : List UInt8) (s : List UInt8) (rn : Option Bool) (rt : Bool) (xs : List (List C)) (kn : Option Bool) (kt : Bool) (ys : List (List C)) (r : List (List V)) (b : Bool) (s5 : List UInt8) (i33 : Int) (i34 : Int) (p : List UInt8) (zs : List (List C)) (nlh8 : Option Bool) : Ex × Fr × Hp := (Ex.ret, [(3, V.ptr 2 0 0 0), (4, V.ptr 4 0 0 0), (5, V.c (C.str s5)), (32, V.c (C.sl 3 kn kt ys)), (33, V.c (C.int IntKind.i64 i33)), (34, V.c (C.int IntKind.i64 i34)), (41, V.fn 166 [V.ptr 6 0 0 0, V.ptr 5 0 0 0, V.ptr 7 0 0 0])], [O.box [V.c (C.str q)], O.box [V.c (C.str s), V.c (C.sl 5 rn rt xs), V.c (C.sl 3 kn kt ys)], O.box [V.fn 82 []], O.yo r.tail b, O.box [V.yl 3], O.gone, O.gone, O.gone, O.box [V.c (C.str p), V.c (C.sl 5 nlh8 false zs)]])
abbrev x166_0vx1 (q : List UInt8) (s : List UInt8) (rn : Option Bool) (rt : Bool) (xs : List (List C)) (kn : Option Bool) (kt : Bool) (ys : List (List C)) (r : List (List V)) (b : Bool) (s5 : List UInt8) (i33 : Int) (i34 : Int) : Ex × Fr × Hp := (Ex.exit 0, [(3, V.ptr 2 0 0 0), (4, V.ptr 4 0 0 0), (5, V.c (C.str s5)), (32, V.c (C.sl 3 kn kt ys)), (33, V.c (C.int IntKind.i64 i33)), (34, V.c (C.int IntKind.i64 i34)), (35, V.c (C.bool false))], [O.box [V.c (C.str q)], O.box [V.c (C.str s), V.c (C.sl 5 rn rt xs), V.c (C.sl 3 kn kt ys)], O.box [V.fn 82 []], O.yo r b, O.box [V.yl 3]])
theorem t166_0v_0 (q : List UInt8) (s : List UInt8) (rn : Option Bool) (rt : Bool) (xs : List (List C)) (kn : Option Bool) (kt : Bool) (ys : List (List C)) (r : List (List V)) (b : Bool) (s5 : List UInt8) (i33 : Int) (i34 : Int) (p : List UInt8) (zs : List (List C)) : p166.rts b166_0v_0 ([V.agg [V.c (C.str p), V.c (C.sl 5 none false zs)]]) (g166_0v_0 q s rn rt xs kn kt ys r b s5 i33 i34) = (Tr.chk (yoHd r [V.agg [V.c (C.str p), V.c (C.sl 5 none false zs)]]) (Tr.br (!yoAns r b) (Tr.leaf (R.x (x166_0v_0x0 q s rn rt xs kn kt ys r b s5 i33 i34 p zs (none)))) (Tr.leaf (R.s (g166_0v_0 q s rn rt xs kn kt ys (r.tail) b s5 i33 i34))))) := by kernel_rfl
theorem k166_0v_0n (q : List UInt8) (s : List UInt8) (rn : Option Bool) (rt : Bool) (xs : List (List C)) (kn : Option Bool) (kt : Bool) (ys : List (List C)) (r : List (List V)) (b : Bool) (s5 : List UInt8) (i33 : Int) (i34 : Int) : p166.lkx b166_0v 0 (x166_0v_0n q s rn rt xs kn kt ys r b s5 i33 i34) = (Tr.leaf (R.s (s166_0v q s rn rt xs kn kt ys r b s5 i33 (IntKind.i64.wrap (i34 + 1))))) := by kernel_rfl
theorem k166_0v_0x0 (q : List UInt8) (s : List UInt8) (rn : Option Bool) (rt : Bool) (xs : List (List C)) (kn : Option Bool) (kt : Bool) (ys : List (List C)) (r : List (List V)) (b : Bool) (s5 : List UInt8) (i33 : Int) (i34 : Int) (p : List UInt8) (zs : List (List C)) (nlh8 : Option Bool) : p166.lkx b166_0v 0 (x166_0v_0x0 q s rn rt xs kn kt ys r b s5 i33 i34 p zs nlh8) = (Tr.leaf (R.x (x166_0vx0 q s rn rt xs kn kt ys r b s5 i33 i34 p zs nlh8))) := by kernel_rfl
theorem t166_0v (q : List UInt8) (s : List UInt8) (rn : Option Bool) (rt : Bool) (xs : List (List C)) (kn : Option Bool) (kt : Bool) (ys : List (List C)) (r : List (List V)) (b : Bool) (s5 : List UInt8) (i33 : Int) (i34 : Int) : p166.lts b166_0v (s166_0v q s rn rt xs kn kt ys r b s5 i33 i34) = (Tr.br (decide (i34 < i33)) (Tr.chk (decide (0 ≤ i34)) (Tr.chk true (Tr.chk (decide (i34.toNat < ys.length)) (Tr.chk (shOk [Sk.str, Sk.sl 5, Sk.sl 3] (ys.getD i34.toNat [])) (Tr.rs 0 (s166_0v_0 q s rn rt xs kn kt ys r b s5 i33 i34 (((ys.getD i34.toNat []).headD C.pnil).st) (none) false (((ys.getD i34.toNat []).tail.headD C.pnil).xs) (none) false (((ys.getD i34.toNat []).tail.tail.headD C.pnil).xs))))))) (Tr.leaf (R.x (x166_0vx1 q s rn rt xs kn kt ys r b s5 i33 i34)))) := by kernel_rfl
theorem k166_0vx0 (q : List UInt8) (s : List UInt8) (rn : Option Bool) (rt : Bool) (xs : List (List C)) (kn : Option Bool) (kt : Bool) (ys : List (List C)) (r : List (List V)) (b : Bool) (s5 : List UInt8) (i33 : Int) (i34 : Int) (p : List UInt8) (zs : List (List C)) (nlh8 : Option Bool) : p166.fkx 0 (x166_0vx0 q s rn rt xs kn kt ys r b s5 i33 i34 p zs nlh8) = (Tr.leaf (R.out [] [O.box [V.c (C.str q)], O.box [V.c (C.str s), V.c (C.sl 5 rn rt xs), V.c (C.sl 3 kn kt ys)], O.box [V.fn 82 []], O.yo r.tail b])) := by kernel_rfl
theorem k166_0vx1 (q : List UInt8) (s : List UInt8) (rn : Option Bool) (rt : Bool) (xs : List (List C)) (kn : Option Bool) (kt : Bool) (ys : List (List C)) (r : List (List V)) (b : Bool) (s5 : List UInt8) (i33 : Int) (i34 : Int) : p166.fkx 0 (x166_0vx1 q s rn rt xs kn kt ys r b s5 i33 i34) = (Tr.leaf (R.out [] [O.box [V.c (C.str q)], O.box [V.c (C.str s), V.c (C.sl 5 rn rt xs), V.c (C.sl 3 kn kt ys)], O.box [V.fn 82 []], O.yo r b])) := by kernel_rfl
theorem t166 (q : List UInt8) (s : List UInt8) (rn : Option Bool) (rt : Bool) (xs : List (List C)) (kn : Option Bool) (kt : Bool) (ys : List (List C)) (r : List (List V)) (b : Bool) : p166.ft ([V.yl 3, V.ptr 0 0 0 0, V.ptr 1 0 0 0, V.ptr 2 0 0 0]) ([O.box [V.c (C.str q)], O.box [V.c (C.str s), V.c (C.sl 5 rn rt xs), V.c (C.sl 3 kn kt ys)], O.box [V.fn 82 []], O.yo r b]) = (Tr.chk (decide (q.length + s.length < 4294967296)) (Tr.br false (Tr.leaf (R.out [] [O.box [V.c (C.str q)], O.box [V.c (C.str s), V.c (C.sl 5 rn rt xs), V.c (C.sl 3 kn kt ys)], O.box [V.fn 82 []], O.yo r b])) (Tr.br (decide (0 < (↑xs.length : Int))) (Tr.chk (decide (xs.length < 4294967296)) (Tr.chk (decide (rn ≠ some true ∨ xs = [])) (Tr.chk (yoHd r [V.agg [V.c (C.str (q ++ s)), V.c (C.sl 5 none false xs)]]) (Tr.br (!yoAns r b) (Tr.leaf (R.out [] [O.box [V.c (C.str q)], O.box [V.c (C.str s), V.c (C.sl 5 rn rt xs), V.c (C.sl 3 kn kt ys)], O.box [V.fn 82 []], O.yo r.tail b])) (Tr.ls 0 (s166_0 q s rn rt xs kn kt ys r b (q ++ s) ((↑ys.length : Int)) (0))))))) (Tr.ls 0 (s166_0v q s rn rt xs kn kt ys r b (q ++ s) ((↑ys.length : Int)) (0)))))) := by kernel_rfl
end Go.Proofs.YtgaabjmbnomimaaDoor
namespace Go.Proofs.YtgaabjmbnomimaaDoor
open Go Go.Ev
theorem want_take {es u : List (List V)} {b : Bool} (hw : Want es u b) : ∃ m, u = es.take m ∧ m ≤ es.length ∧ (b = false → m = es.length) ∧ (b = true → 1 ≤ m) := by
  rcases hw with ⟨h1, h2⟩ | ⟨h1, h2, h3⟩
  · exact ⟨es.length, by rw [List.take_length]; exact h2, Nat.le_refl _, fun _ => rfl, fun h => by rw [h1] at h; cases h⟩
  · exact ⟨u.length, List.prefix_iff_eq_take.1 h3, h3.length_le, fun h => (by rw [h1] at h; cases h), fun _ => List.length_pos_iff.2 h2⟩
/-- What a walk's own node hands over. -/
def ownW (q : List UInt8) (rs : List Row) : List Ent := match rs with | [] => [] | r :: s => [(q, r :: s)]
theorem walkT_eq (al : List UInt8 → Bool) (q s : List UInt8) (rs : List Row) (ks : List Nd) : walkT al q (.node s rs ks) = cond (al (q ++ s)) (ownW (q ++ s) rs ++ walkL al (q ++ s) ks) [] := by
  cases rs <;> simp [walkT, ownW]
theorem walkL_app (al : List UInt8 → Bool) (q : List UInt8) (a b : List Nd) : walkL al q (a ++ b) = walkL al q a ++ walkL al q b := by
  induction a with
  | nil => rfl
  | cons t r ih => simp [walkL, ih]
theorem walkL_take (al : List UInt8 → Bool) (q : List UInt8) {l : List Nd} {k : Nat} (hk : k < l.length) : walkL al q (l.take (k + 1)) = walkL al q (l.take k) ++ walkT al q l[k] := by
  rw [List.take_succ_eq_append_getElem hk, walkL_app]; simp [walkL]
theorem walkL_take_le (al : List UInt8 → Bool) (q : List UInt8) (l : List Nd) (k : Nat) : (walkL al q (l.take k)).length ≤ (walkL al q l).length := by
  conv => rhs; rw [← List.take_append_drop k l, walkL_app, List.length_append]
  omega
mutual
theorem eqb_refl : ∀ x : C, x.eqb x = true
  | .int .. | .bool _ | .str _ | .pnil | .inil | .fnil => by simp [C.eqb]
  | .sl z nl t xs => by simp [C.eqb, eqbLL_refl xs]
theorem eqbL_refl : ∀ l : List C, eqbL l l = true
  | [] => by simp [eqbL]
  | x :: r => by simp [eqbL, eqb_refl x, eqbL_refl r]
theorem eqbLL_refl : ∀ l : List (List C), eqbLL l l = true
  | [] => by simp [eqbLL]
  | x :: r => by simp [eqbLL, eqbL_refl x, eqbLL_refl r]
end
theorem eqb_encE (p : List UInt8) (rs : List Row) : eqbV [V.agg [V.c (C.str p), V.c (C.sl 5 none false (rows rs))]] (encE (p, rs)) = true := by
  simp [encE, eqbV, V.eqb, eqb_refl]
/-- Where a hand-over stands: behind c elements of those that are wanted. -/
structure At (u : List (List V)) (b : Bool) (m c : Nat) (r : List (List V)) : Prop where
  eq : r = u.drop c
  le : c ≤ m
  lt : b = true → c < m
theorem At.next {es : List (List V)} {u : List (List V)} {b : Bool} {m c : Nat} {r : List (List V)} (hu : u = es.take m) (hm : m ≤ es.length) (hb : b = false → m = es.length) (h : At u b m c r) (hc : c < es.length) :
    c < m ∧ r = es[c] :: u.drop (c + 1) ∧ r.tail = u.drop (c + 1) ∧ ((yoAns r b = true ∧ At u b m (c + 1) r.tail) ∨ (yoAns r b = false ∧ r.tail = [] ∧ b = true)) := by
  have hcm : c < m := by
    cases b with
    | false => have := hb rfl; omega
    | true => exact h.lt rfl
  have hul : u.length = m := by rw [hu, List.length_take]; omega
  have hcu : c < u.length := by omega
  have hd : r = es[c] :: u.drop (c + 1) := by
    rw [h.eq, List.drop_eq_getElem_cons hcu]
    congr 1
    simp only [hu, List.getElem_take]
  have ht : r.tail = u.drop (c + 1) := by rw [hd]; rfl
  refine ⟨hcm, hd, ht, ?_⟩
  unfold yoAns
  cases b with
  | false => exact .inl ⟨by simp, ht, by omega, fun h => by cases h⟩
  | true =>
    by_cases hlast : c + 1 = m
    · right
      have hnil : u.drop (c + 1) = [] := List.drop_of_length_le (by omega)
      rw [ht, hnil]
      exact ⟨by simp, rfl, rfl⟩
    · left
      have hne : (u.drop (c + 1)).isEmpty = false := by
        rw [List.isEmpty_eq_false_iff]
        intro h
        have := congrArg List.length h
        rw [List.length_drop] at this
        simp at this; omega
      rw [ht]
      exact ⟨by simp [hne], rfl, by omega, fun _ => by omega⟩
theorem At.end_ {es : List (List V)} {u : List (List V)} {b : Bool} {m c : Nat} {r : List (List V)} (hu : u = es.take m) (hm : m ≤ es.length) (h : At u b m c r) (hc : c = es.length) : r = [] ∧ b = false := by
  have hbf : b = false := by
    cases b with
    | false => rfl
    | true => have := h.lt rfl; omega
  exact ⟨by rw [h.eq]; exact List.drop_of_length_le (by rw [hu, List.length_take]; omega), hbf⟩
theorem f134 (s : List UInt8) (rn : Option Bool) (rt : Bool) (xs : List (List C)) (kn : Option Bool) (kt : Bool) (ys : List (List C)) (q : List UInt8) : call E 134 [.agg [.c (.str s), .c (.sl 5 rn rt xs), .c (.sl 3 kn kt ys)], .c (.str q), .fn 82 []] [] =
    some ([.fn 166 [.ptr 1 0 0 0, .ptr 0 0 0 0, .ptr 2 0 0 0]], [.box [.c (.str s), .c (.sl 5 rn rt xs), .c (.sl 3 kn kt ys)], .box [.c (.str q)], .box [.fn 82 []]]) := by
  refine call_of (E := E) (sh := sh) (ct := ctOf []) (na := 3) (m := 0) ctOf_nil rfl rfl rfl rfl rfl rfl ?_
  rw [t134]; rfl
theorem s134_ok : CSpecOk E 134 s134 := by
  intro a h cs vals h' he hc
  unfold s134 at he
  split at he <;> simp only [Option.some.injEq, Prod.mk.injEq, reduceCtorEq] at he
  obtain ⟨rfl, rfl, rfl⟩ := he
  exact f134 _ _ _ _ _ _ _ _
def alA (_ : List UInt8) : Bool := true
def boxK (q s : List UInt8) (rn : Option Bool) (rt : Bool) (xs : List (List C)) (kn : Option Bool) (kt : Bool) (ys : List (List C)) : Hp := [.box [.c (.str q)], .box [.c (.str s), .c (.sl 5 rn rt xs), .c (.sl 3 kn kt ys)], .box [.fn 82 []]]
theorem sq166_ok (q s : List UInt8) (rn : Option Bool) (rt : Bool) (rs : List Row) (kn : Option Bool) (kt : Bool) (ks : List Nd) :
    E.seq 166 [.yl 3, .ptr 0 0 0 0, .ptr 1 0 0 0, .ptr 2 0 0 0] (boxK q s rn rt (rows rs) kn kt (encL ks)) = some ((walkT alA q (.node s rs ks)).map encE) := by
  have : sq 166 [.yl 3, .ptr 0 0 0 0, .ptr 1 0 0 0, .ptr 2 0 0 0] (boxK q s rn rt (rows rs) kn kt (encL ks)) = some ((walkT alA q (.node s rs ks)).map encE) := by
    simp only [sq, sq166, boxK, alongP, toRows_rows, decL_enc]; rfl
  exact this
def args166 : List V := [.yl 3, .ptr 0 0 0 0, .ptr 1 0 0 0, .ptr 2 0 0 0]
set_option maxHeartbeats 1000000 in
theorem f166 : ∀ (d : Nat) (q s : List UInt8) (rn : Option Bool) (rt : Bool) (rs : List Row) (kn : Option Bool) (kt : Bool) (ks : List Nd) (n : Nat), depL ks < d → q.length + s.length + n ≤ 24 → kidsOk ks n → right rs = true → (rn ≠ some true ∨ rs = []) →
    ∀ (u : List (List V)) (b : Bool), Want ((walkT alA q (.node s rs ks)).map encE) u b →
    call E 166 args166 (boxK q s rn rt (rows rs) kn kt (encL ks) ++ [.yo u b]) = some ([], boxK q s rn rt (rows rs) kn kt (encL ks) ++ [.yo [] b])
  | 0, _, _, _, _, _, _, _, _, _, h, _, _, _, _, _, _, _ => by omega
  | d + 1, q, s, rn, rt, rs, kn, kt, ks, n, hd, hl, hk, hr, hn, u, b, hw => by
    have hct : (ctOf [(82, s82), (68, s68), (134, s134)]).ok E := ctOf_cons s82_ok (ctOf_cons s68_ok (ctOf_cons s134_ok ctOf_nil))
    refine call_of (E := E) (sh := sh) (ct := ctOf [(82, s82), (68, s68), (134, s134)]) (na := 4) (m := 4) hct rfl rfl rfl rfl rfl rfl ?_
    show p166.fd (p166.ft [.yl 3, .ptr 0 0 0 0, .ptr 1 0 0 0, .ptr 2 0 0 0] [.box [.c (.str q)], .box [.c (.str s), .c (.sl 5 rn rt (rows rs)), .c (.sl 3 kn kt (encL ks))], .box [.fn 82 []], .yo u b]) =
      some (.out [] [.box [.c (.str q)], .box [.c (.str s), .c (.sl 5 rn rt (rows rs)), .c (.sl 3 kn kt (encL ks))], .box [.fn 82 []], .yo [] b])
    rw [t166, encL_length]
    have hkl := okL_len (okL_iff'.2 hk) (by omega)
    have hrl := right_len4 hr
    have hn' : rn ≠ some true ∨ rows rs = [] := hn.imp id fun h => by rw [h]; rfl
    rw [walkT_eq] at hw
    simp only [alA, cond_true] at hw
    obtain ⟨m, hu, hm0, hm1, hm2⟩ := want_take hw
    generalize hes : (ownW (q ++ s) rs ++ walkL alA (q ++ s) ks).map encE = es at *
    have hesl : es.length = (ownW (q ++ s) rs).length + (walkL alA (q ++ s) ks).length := by rw [← hes]; simp
    have at0 : At u b m 0 u := ⟨rfl, Nat.zero_le _, fun h => hm2 h⟩
    -- the kids
    have key : ∀ r : List (List V), At u b m (ownW (q ++ s) rs).length r → p166.fd (Tr.ls 0 (s166_0v q s rn rt (rows rs) kn kt (encL ks) r b (q ++ s) ks.length 0)) =
        some (.out [] [.box [.c (.str q)], .box [.c (.str s), .c (.sl 5 rn rt (rows rs)), .c (.sl 3 kn kt (encL ks))], .box [.fn 82 []], .yo [] b]) := by
      intro r hat
      refine fd_post hct (by kernel_rfl) rfl (list_post (p := p166) hct (b := b166_0v) ks.length (fun k (r : List (List V)) => s166_0v q s rn rt (rows rs) kn kt (encL ks) r b (q ++ s) ks.length k) (fun k r => At u b m ((ownW (q ++ s) rs).length + (walkL alA (q ++ s) (ks.take k)).length) r) _ ?_ ?_ 0 (Nat.zero_le _) r (by simpa [walkL] using hat))
      · intro k r hk2 hat
        have hT := hk.1 _ (List.getElem_mem hk2)
        obtain ⟨g1, g2, g3, g4, g5⟩ := okT_iff.1 hT
        have hkid : depL ks[k].kids < d := by have := depL_kid (List.getElem_mem hk2); omega
        have hnx := walkL_take alA (q ++ s) hk2
        have hle := walkL_take_le alA (q ++ s) ks (k + 1)
        have hesk : ∀ j, (hj : j < (walkT alA (q ++ s) ks[k]).length) → es[(ownW (q ++ s) rs).length + (walkL alA (q ++ s) (ks.take k)).length + j]? = some (encE (walkT alA (q ++ s) ks[k])[j]) := fun j hj => by
          rw [← hes, List.getElem?_map, List.getElem?_append_right (by omega)]
          have e0 : walkL alA (q ++ s) ks = walkL alA (q ++ s) (ks.take (k + 1)) ++ walkL alA (q ++ s) (ks.drop (k + 1)) := by rw [← walkL_app, List.take_append_drop]
          rw [e0, hnx, List.append_assoc, List.getElem?_append_right (by omega), List.getElem?_append_left (by omega)]
          have e1 : (ownW (q ++ s) rs).length + (walkL alA (q ++ s) (ks.take k)).length + j - (ownW (q ++ s) rs).length - (walkL alA (q ++ s) (ks.take k)).length = j := by omega
          rw [e1, List.getElem?_eq_getElem hj]; rfl
        rw [hnx, List.length_append] at hle
        have hin := ranges_post (p := p166) hct (c := b166_0v_0) (gi := 166) (caps := [.ptr 6 0 0 0, .ptr 5 0 0 0, .ptr 7 0 0 0]) (args := args166)
          (s0 := s166_0v_0 q s rn rt (rows rs) kn kt (encL ks) r b (q ++ s) ks.length k ks[k].lab none false (rows ks[k].rows) none false (encL ks[k].kids))
          (h0 := boxK (q ++ s) ks[k].lab none false (rows ks[k].rows) none false (encL ks[k].kids)) (ids := [6, 5, 7]) (by kernel_rfl) (walkT alA (q ++ s) ks[k]) encE rfl (by kernel_rfl)
          (by have := sq166_ok (q ++ s) ks[k].lab none false ks[k].rows none false ks[k].kids; rw [Nd.eta] at this; exact this)
          (fun u' b' hw' => ⟨_, _, f166 d (q ++ s) ks[k].lab none false ks[k].rows none false ks[k].kids (n - ks[k].lab.length) hkid (by rw [List.length_append]; omega) g5 g3 (.inl (by simp)) u' b' (by rw [Nd.eta]; exact hw'), rfl⟩)
          (fun (r : List (List V)) => g166_0v_0 q s rn rt (rows rs) kn kt (encL ks) r b (q ++ s) ks.length k)
          (fun (l : List Ent) r => ∃ j, l = (walkT alA (q ++ s) ks[k]).drop j ∧ j ≤ (walkT alA (q ++ s) ks[k]).length ∧ At u b m ((ownW (q ++ s) rs).length + (walkL alA (q ++ s) (ks.take k)).length + j) r)
          (fun y => (∃ r', At u b m ((ownW (q ++ s) rs).length + (walkL alA (q ++ s) (ks.take (k + 1))).length) r' ∧ p166.ld b166_0v (p166.lkx b166_0v 0 y) = some (R.s (s166_0v q s rn rt (rows rs) kn kt (encL ks) r' b (q ++ s) ks.length ((k + 1 : Nat) : Int)))) ∨
            (∃ x : Ex × Fr × Hp, x.1 ≠ .nrm ∧ p166.fd (p166.fkx 0 x) = some (.out [] [.box [.c (.str q)], .box [.c (.str s), .c (.sl 5 rn rt (rows rs)), .c (.sl 3 kn kt (encL ks))], .box [.fn 82 []], .yo [] b]) ∧ p166.ld b166_0v (p166.lkx b166_0v 0 y) = some (R.x x)))
          (by
            rintro ⟨p, prs⟩ l r ⟨j, hj, hjl, hat⟩
            have hj2 : j < (walkT alA (q ++ s) ks[k]).length := by
              rcases Nat.lt_or_ge j (walkT alA (q ++ s) ks[k]).length with h | h
              · exact h
              · rw [List.drop_of_length_le h] at hj; cases hj
            rw [List.drop_eq_getElem_cons hj2] at hj
            simp only [List.cons.injEq] at hj
            obtain ⟨hj3, rfl⟩ := hj
            have hee := hesk j hj2
            rw [← hj3] at hee
            obtain ⟨hc1, hc2⟩ := List.getElem?_eq_some_iff.1 hee
            obtain ⟨_, hr1, hr2, hr3⟩ := hat.next hu hm0 hm1 hc1
            rw [hc2] at hr1
            have hrd : p166.rds b166_0v_0 (g166_0v_0 q s rn rt (rows rs) kn kt (encL ks) r b (q ++ s) ks.length k) (p166.rts b166_0v_0 (encE (p, prs)) (g166_0v_0 q s rn rt (rows rs) kn kt (encL ks) r b (q ++ s) ks.length k)) =
                (if (!yoAns r b) = true then some (R.x (x166_0v_0x0 q s rn rt (rows rs) kn kt (encL ks) r b (q ++ s) ks.length k p (rows prs) none)) else some (R.s (g166_0v_0 q s rn rt (rows rs) kn kt (encL ks) r.tail b (q ++ s) ks.length k))) := by
              refine (congrArg _ (t166_0v_0 q s rn rt (rows rs) kn kt (encL ks) r b (q ++ s) ks.length k p (rows prs))).trans ?_
              have hyo : yoHd r [V.agg [V.c (C.str p), V.c (C.sl 5 none false (rows prs))]] = true := by rw [hr1]; exact eqb_encE p prs
              rw [rd_chk', if_pos hyo, rd_br, rd_leaf, rd_leaf]
            rcases hr3 with ⟨h1, h2⟩ | ⟨h1, h2, h3⟩
            · left
              refine ⟨r.tail, ⟨j + 1, rfl, by omega, ?_⟩, ?_⟩
              · rw [← Nat.add_assoc]; exact h2
              · rw [hrd, h1]; rfl
            · right
              refine ⟨x166_0v_0x0 q s rn rt (rows rs) kn kt (encL ks) r b (q ++ s) ks.length k p (rows prs) none, by simp, .inr ⟨x166_0vx0 q s rn rt (rows rs) kn kt (encL ks) r b (q ++ s) ks.length k p (rows prs) none, by simp, ?_, ?_⟩, ?_⟩
              · rw [k166_0vx0, fd_leaf, h2]
              · rw [k166_0v_0x0, ld_leaf]
              · rw [hrd, h1]; rfl)
          (by
            rintro r ⟨j, hj, hjl, hat⟩
            have hj2 : j = (walkT alA (q ++ s) ks[k]).length := by
              rcases Nat.lt_or_ge j (walkT alA (q ++ s) ks[k]).length with h | h
              · rw [List.drop_eq_getElem_cons h] at hj; cases hj
              · omega
            subst hj2
            left
            refine ⟨r, by rw [hnx, List.length_append, ← Nat.add_assoc]; exact hat, ?_⟩
            show p166.ld b166_0v (p166.lkx b166_0v 0 (x166_0v_0n q s rn rt (rows rs) kn kt (encL ks) r b (q ++ s) ks.length k)) = _
            rw [k166_0v_0n, ld_leaf, wrap_succ (by omega)])
          r rfl ⟨0, by simp, Nat.zero_le _, by simpa using hat⟩
        rw [t166_0v]
        simp only [nd_ok, nd_lab, nd_rows, nd_kids, encL_length, isL_enc, decL_enc, wrap_hd, hd_pos, ld_br, ld_chk', ld_leaf, fd_br, fd_chk', fd_leaf, decide_true, decide_eq_true_eq, if_true, Int.toNat_natCast, Int.natCast_nonneg, Int.ofNat_lt, Int.ofNat_le, Bool.false_eq_true, if_false, bne_iff_ne, beq_iff_eq, ne_eq, not_true_eq_false, not_false_eq_true, Bool.not_eq_true', decide_eq_false_iff_not, reduceCtorEq, rows_length, pcs_length, er_ok, er_ok', ep_ok, ep_ok', dr_er, dp_ep, isRows_rows, isPcs_pcs, toRows_rows, toPcs_pcs, rows_take, rows_drop, pcs_take, pcs_drop, rows_append, pcs_append, ints_length, isInts_ints, toInts_ints, ei_i, ei_ok, mk_headD, ints_take, ints_drop, ints_append, ints_snoc, ints_snoc', List.take_length, Nat.zero_add, Nat.le_refl, er_a, er_b, er_k, er_n, er_s, er_v, ep_a, ep_b, ep_hk, ep_hn, ep_hs, ep_wk, ep_wn, ep_ws, hk2, encL_getD hk2]
        obtain ⟨y, hy, hR⟩ := hin
        rcases hy with ⟨r', h1, h2⟩ | ⟨x, h1, h2, h3⟩
        · exact .inl ⟨r', h1, ld_rpost hct (by kernel_rfl) rfl ⟨y, h2, hR⟩⟩
        · exact .inr ⟨x, h1, h2, ld_rpost hct (by kernel_rfl) rfl ⟨y, h3, hR⟩⟩
      · intro r hat
        rw [List.take_length, ← hesl] at hat
        obtain ⟨rfl, rfl⟩ := hat.end_ hu hm0 rfl
        rw [t166_0v]
        exact ⟨x166_0vx1 q s rn rt (rows rs) kn kt (encL ks) [] false (q ++ s) ks.length ks.length, by simp, by rw [k166_0vx1, fd_leaf], by simp only [nd_ok, nd_lab, nd_rows, nd_kids, encL_length, isL_enc, decL_enc, wrap_hd, hd_pos, ld_br, ld_chk', ld_leaf, fd_br, fd_chk', fd_leaf, decide_true, decide_eq_true_eq, if_true, Int.toNat_natCast, Int.natCast_nonneg, Int.ofNat_lt, Int.ofNat_le, Bool.false_eq_true, if_false, bne_iff_ne, beq_iff_eq, ne_eq, not_true_eq_false, not_false_eq_true, Bool.not_eq_true', decide_eq_false_iff_not, reduceCtorEq, rows_length, pcs_length, er_ok, er_ok', ep_ok, ep_ok', dr_er, dp_ep, isRows_rows, isPcs_pcs, toRows_rows, toPcs_pcs, rows_take, rows_drop, pcs_take, pcs_drop, rows_append, pcs_append, ints_length, isInts_ints, toInts_ints, ei_i, ei_ok, mk_headD, ints_take, ints_drop, ints_append, ints_snoc, ints_snoc', List.take_length, Nat.zero_add, Nat.le_refl, er_a, er_b, er_k, er_n, er_s, er_v, ep_a, ep_b, ep_hk, ep_hn, ep_hs, ep_wk, ep_wn, ep_ws, Int.lt_irrefl]⟩
    have hql : q.length + s.length < 4294967296 := by omega
    have hrl2 : rs.length < 4294967296 := by omega
    simp only [nd_ok, nd_lab, nd_rows, nd_kids, encL_length, isL_enc, decL_enc, wrap_hd, hd_pos, ld_br, ld_chk', ld_leaf, fd_br, fd_chk', fd_leaf, decide_true, decide_eq_true_eq, if_true, Int.toNat_natCast, Int.natCast_nonneg, Int.ofNat_lt, Int.ofNat_le, Bool.false_eq_true, if_false, bne_iff_ne, beq_iff_eq, ne_eq, not_true_eq_false, not_false_eq_true, Bool.not_eq_true', decide_eq_false_iff_not, reduceCtorEq, rows_length, pcs_length, er_ok, er_ok', ep_ok, ep_ok', dr_er, dp_ep, isRows_rows, isPcs_pcs, toRows_rows, toPcs_pcs, rows_take, rows_drop, pcs_take, pcs_drop, rows_append, pcs_append, ints_length, isInts_ints, toInts_ints, ei_i, ei_ok, mk_headD, ints_take, ints_drop, ints_append, ints_snoc, ints_snoc', List.take_length, Nat.zero_add, Nat.le_refl, er_a, er_b, er_k, er_n, er_s, er_v, ep_a, ep_b, ep_hk, ep_hn, ep_hs, ep_wk, ep_wn, ep_ws, hql, hrl2]
    by_cases c : rs = []
    · subst c
      rw [if_neg (by simp)]
      exact key u at0
    · have c0 : (0 : Int) < rs.length := by have := List.length_pos_iff.2 c; omega
      obtain ⟨r0, rr, rfl⟩ : ∃ a r, rs = a :: r := by cases rs with | nil => exact absurd rfl c | cons a r => exact ⟨a, r, rfl⟩
      have ho : ownW (q ++ s) (r0 :: rr) = [(q ++ s, r0 :: rr)] := rfl
      have h0 : 0 < es.length := by rw [hesl, ho]; simp; omega
      have he0 : es[0] = encE (q ++ s, r0 :: rr) := by simp only [← hes, ho]; rfl
      obtain ⟨_, hr1, hr2, hr3⟩ := at0.next hu hm0 hm1 h0
      rw [he0] at hr1
      have hyo : yoHd u [V.agg [V.c (C.str (q ++ s)), V.c (C.sl 5 none false (rows (r0 :: rr)))]] = true := by rw [hr1]; exact eqb_encE _ _
      rw [if_pos c0]
      simp only [hn', hyo, if_true]
      rcases hr3 with ⟨h1, h2⟩ | ⟨h1, h2, h3⟩
      · rw [if_neg (by simp [h1])]
        exact key u.tail (by rw [ho]; exact h2)
      · rw [if_pos (by simp [h1]), h2]
end Go.Proofs.YtgaabjmbnomimaaDoor
namespace Go.Proofs.YtgaabjmbnomimaaDoor
open Go Go.Ev
-- cse
set_option pp.deepTerms true
set_option pp.maxSteps 1000000
set_option pp.funBinderTypes true
set_option pp.coercions.types true
noncomputable abbrev p81 : Par := par E sh (ctOf [(28, s28), (134, s134), (82, s82)]) 81 3 0
abbrev s81_0 (s : List UInt8) (rn : Option Bool) (rt : Bool) (xs : List (List C)) (kn : Option Bool) (kt : Bool) (ys : List (List C)) (nl6 : Option Bool) (t6 : Bool) (xs6 : List (List C)) (ys1 : List (List C)) (nh2 : Nat) (sh4 : List UInt8) : Fr × Hp := ([(5, V.ptr 0 0 0 0), (6, V.c (C.sl 2 nl6 t6 xs6)), (7, V.ptr 2 0 0 0), (14, V.fn 166 [V.ptr 4 0 0 0, V.ptr 3 0 0 0, V.ptr 5 0 0 0])], [O.box [V.fn 82 []], O.mem 2 0 ys1, O.box [V.buf 1 0 0 nh2], O.box [V.c (C.str s), V.c (C.sl 5 rn rt xs), V.c (C.sl 3 kn kt ys)], O.box [V.c (C.str sh4)], O.box [V.fn 82 []]])
noncomputable abbrev b81_0 : Code := loopAt (codeOf E (81)) 0
abbrev g81_0 (nl6 : Option Bool) (t6 : Bool) (xs6 : List (List C)) (ys1 : List (List C)) (nh2 : Nat) : Fr × Hp := ([(5, V.ptr 0 0 0 0), (6, V.c (C.sl 2 nl6 t6 xs6)), (7, V.ptr 2 0 0 0), (14, V.fn 166 [V.ptr 4 0 0 0, V.ptr 3 0 0 0, V.ptr 5 0 0 0])], [O.box [V.fn 82 []], O.mem 2 0 ys1, O.box [V.buf 1 0 0 nh2], O.gone, O.gone, O.gone])
abbrev x81_0n (nl6 : Option Bool) (t6 : Bool) (xs6 : List (List C)) (ys1 : List (List C)) (nh2 : Nat) : Ex × Fr × Hp := (Ex.nrm, [(5, V.ptr 0 0 0 0), (6, V.c (C.sl 2 nl6 t6 xs6)), (7, V.ptr 2 0 0 0), (14, V.fn 166 [V.ptr 4 0 0 0, V.ptr 3 0 0 0, V.ptr 5 0 0 0])], [O.box [V.fn 82 []], O.mem 2 0 ys1, O.box [V.buf 1 0 0 nh2], O.gone, O.gone, O.gone])
theorem t81_0 (nl6 : Option Bool) (t6 : Bool) (xs6 : List (List C)) (ys1 : List (List C)) (nh2 : Nat) (p : List UInt8) (zs : List (List C)) : p81.rts b81_0 ([V.agg [V.c (C.str p), V.c (C.sl 5 none false zs)]]) (g81_0 nl6 t6 xs6 ys1 nh2) = (Tr.br true (Tr.chk true (Tr.chk true (Tr.chk (decide (nh2 + 1 < 4294967296)) (Tr.chk true (Tr.leaf (R.s (g81_0 nl6 t6 xs6 (List.take nh2 ys1 ++ [[C.str p, C.sl 5 none false zs]]) (nh2 + 1)))))))) (Tr.leaf (R.s (g81_0 nl6 t6 xs6 ys1 nh2)))) := by kernel_rfl
theorem k81_0n (nl6 : Option Bool) (t6 : Bool) (xs6 : List (List C)) (ys1 : List (List C)) (nh2 : Nat) : p81.fkx 0 (x81_0n nl6 t6 xs6 ys1 nh2) = (Tr.leaf (R.out [V.c (C.sl 2 none false (List.take nh2 ys1))] [])) := by kernel_rfl
theorem t81 (s : List UInt8) (rn : Option Bool) (rt : Bool) (xs : List (List C)) (kn : Option Bool) (kt : Bool) (ys : List (List C)) : p81.ft ([V.agg [V.c (C.str s), V.c (C.sl 5 rn rt xs), V.c (C.sl 3 kn kt ys)], V.fn 82 [], V.fn 82 []]) ([]) = (Tr.chk (isRows xs) (Tr.chk (isL ys) (Tr.br (checkT (Nd.node s (toRows xs) (decL ys)) != 0) (Tr.leaf (R.out [V.c (C.sl 2 none false [])] [])) (Tr.rs 0 (s81_0 s rn rt xs kn kt ys (some true) true ([]) ([]) (0) ([])))))) := by kernel_rfl
def s81 : CSpec := fun a h => match a, h with
  | [.agg [.c (.str s), .c (.sl 5 rn rt xs), .c (.sl 3 kn kt ys)], .fn 82 [], .fn 82 []], [] => some ([isRows xs, isL ys, decide ((entL (decL ys)).length < 1000000000)], [.c (.sl 2 none false (ents (entP (.node s (toRows xs) (decL ys)))))], [])
  | _, _ => none
noncomputable abbrev p34 : Par := par E sh (ctOf [(81, s81)]) 34 1 0
theorem t34 (s : List UInt8) (rn : Option Bool) (rt : Bool) (xs : List (List C)) (kn : Option Bool) (kt : Bool) (ys : List (List C)) : p34.ft ([V.agg [V.c (C.str s), V.c (C.sl 5 rn rt xs), V.c (C.sl 3 kn kt ys)]]) ([]) = (Tr.chk (isRows xs) (Tr.chk (isL ys) (Tr.chk (decide ((entL (decL ys)).length < 1000000000)) (Tr.leaf (R.out [V.c (C.sl 2 none false (ents (entP (Nd.node s (toRows xs) (decL ys)))))] []))))) := by kernel_rfl
end Go.Proofs.YtgaabjmbnomimaaDoor
namespace Go.Proofs.YtgaabjmbnomimaaDoor
open Go Go.Ev
theorem ownW_E (q : List UInt8) (rs : List Row) : ownW q rs = ownE q rs := by
  unfold ownE; cases rs <;> simp [ownW]
mutual
theorem walkT_all : ∀ (q : List UInt8) (t : Nd), walkT alA q t = pre q (entT t)
  | q, .node s rs ks => by
    rw [walkT_eq, entT_node, ← ownW_E, ← walkL_all (q ++ s) ks]; rfl
theorem walkL_all : ∀ (q : List UInt8) (l : List Nd), walkL alA q l = pre q (entL l)
  | q, [] => rfl
  | q, t :: r => by rw [walkL, entL, pre_app, walkT_all q t, walkL_all q r]
end
theorem walk_root (ks : List Nd) : walkT alA [] (.node [] [] ks) = entL ks := by
  rw [walkT_all, entT_node, List.nil_append, pre_nil]; rfl
theorem ents_take (l : List Ent) (n : Nat) (h : n = l.length) : List.take n (ents l) = ents l := by rw [h, ← ents_length, List.take_length]
theorem entP_node (s : List UInt8) (rs : List Row) (ks : List Nd) : entP (.node s rs ks) = cond (okR (.node s rs ks)) (entL ks) [] := rfl
theorem ents_snoc (l : List Ent) (p : List UInt8) (rs : List Row) : ents l ++ [[C.str p, C.sl 5 none false (rows rs)]] = ents (l ++ [(p, rs)]) := by simp [ents, ee]
theorem f81 (s : List UInt8) (rn : Option Bool) (rt : Bool) (rs : List Row) (kn : Option Bool) (kt : Bool) (ks : List Nd) (hn : (entL ks).length < 1000000000) :
    call E 81 [.agg [.c (.str s), .c (.sl 5 rn rt (rows rs)), .c (.sl 3 kn kt (encL ks))], .fn 82 [], .fn 82 []] [] = some ([.c (.sl 2 none false (ents (entP (.node s rs ks))))], []) := by
  have hct : (ctOf [(28, s28), (134, s134), (82, s82)]).ok E := ctOf_cons s28_ok (ctOf_cons s134_ok (ctOf_cons s82_ok ctOf_nil))
  refine call_of (E := E) (sh := sh) (ct := ctOf [(28, s28), (134, s134), (82, s82)]) (na := 3) (m := 0) hct rfl rfl rfl rfl rfl rfl ?_
  rw [t81]
  simp only [nd_ok, nd_lab, nd_rows, nd_kids, encL_length, isL_enc, decL_enc, wrap_hd, hd_pos, ld_br, ld_chk', ld_leaf, fd_br, fd_chk', fd_leaf, decide_true, decide_eq_true_eq, if_true, Int.toNat_natCast, Int.natCast_nonneg, Int.ofNat_lt, Int.ofNat_le, Bool.false_eq_true, if_false, bne_iff_ne, beq_iff_eq, ne_eq, not_true_eq_false, not_false_eq_true, Bool.not_eq_true', decide_eq_false_iff_not, reduceCtorEq, rows_length, pcs_length, er_ok, er_ok', ep_ok, ep_ok', dr_er, dp_ep, isRows_rows, isPcs_pcs, toRows_rows, toPcs_pcs, rows_take, rows_drop, pcs_take, pcs_drop, rows_append, pcs_append, ints_length, isInts_ints, toInts_ints, ei_i, ei_ok, mk_headD, ints_take, ints_drop, ints_append, ints_snoc, ints_snoc', List.take_length, Nat.zero_add, Nat.le_refl, er_a, er_b, er_k, er_n, er_s, er_v, ep_a, ep_b, ep_hk, ep_hn, ep_hs, ep_wk, ep_wn, ep_ws, checkT_ne]
  rw [entP_node]
  cases c1 : okR (.node s rs ks) with
  | false => rfl
  | true =>
    have c1' := okR_iff.1 c1
    simp only [Nd.lab_node, Nd.rows_node, Nd.kids_node] at c1'
    obtain ⟨rfl, rfl, hk⟩ := c1'
    simp only [Bool.not_true, Bool.false_eq_true, if_false, cond_true]
    refine fd_rpost hct (by kernel_rfl) rfl (ranges_post (p := p81) hct (c := b81_0) (gi := 166) (caps := [.ptr 4 0 0 0, .ptr 3 0 0 0, .ptr 5 0 0 0]) (args := args166)
      (h0 := boxK [] [] rn rt (rows []) kn kt (encL ks)) (ids := [4, 3, 5]) (by kernel_rfl) (entL ks) encE rfl (by kernel_rfl)
      (by have := sq166_ok [] [] rn rt [] kn kt ks; rw [walk_root] at this; exact this)
      (fun u b hw => ⟨_, _, f166 (depL ks + 1) [] [] rn rt [] kn kt ks 24 (Nat.lt_succ_self _) (by simp) hk rfl (.inr rfl) u b (by rw [walk_root]; exact hw), rfl⟩)
      (fun (acc : List Ent) => g81_0 (some true) true [] (ents acc) acc.length) (fun l acc => acc ++ l = entL ks) _ ?_ ?_ [] rfl rfl)
    · rintro ⟨p, prs⟩ l acc hi
      left
      have hlen : acc.length + 1 < 4294967296 := by
        have := congrArg List.length hi
        simp only [List.length_append, List.length_cons] at this; omega
      refine ⟨acc ++ [(p, prs)], by rw [← hi]; simp, ?_⟩
      refine (congrArg _ (t81_0 (some true) true [] (ents acc) acc.length p (rows prs))).trans ?_
      simp only [rd_br, rd_chk', rd_leaf, if_true, hlen, decide_true, ents_take acc acc.length rfl, ents_snoc, List.length_append, List.length_singleton]
    · intro acc hi
      rw [List.append_nil] at hi
      subst hi
      show p81.fd (p81.fkx 0 (x81_0n (some true) true [] (ents (entL ks)) (entL ks).length)) = _
      rw [k81_0n, fd_leaf, ents_take _ _ rfl]
theorem s81_ok : CSpecOk E 81 s81 := by
  intro a h cs vals h' he hc
  unfold s81 at he
  split at he <;> simp only [Option.some.injEq, Prod.mk.injEq, reduceCtorEq] at he
  rename_i s rn rt xs kn kt ys
  obtain ⟨rfl, rfl, rfl⟩ := he
  simp only [allT, Bool.and_true, Bool.and_eq_true, decide_eq_true_eq] at hc
  obtain ⟨h1, h2, h3⟩ := hc
  obtain ⟨rs, rfl⟩ := rows_ex h1
  obtain ⟨ks, rfl⟩ := isL_ex h2
  simp only [toRows_rows, decL_enc] at *
  exact f81 s rn rt rs kn kt ks h3
theorem f34 (s : List UInt8) (rn : Option Bool) (rt : Bool) (rs : List Row) (kn : Option Bool) (kt : Bool) (ks : List Nd) (hn : (entL ks).length < 1000000000) :
    call E 34 [.agg [.c (.str s), .c (.sl 5 rn rt (rows rs)), .c (.sl 3 kn kt (encL ks))]] [] = some ([.c (.sl 2 none false (ents (entP (.node s rs ks))))], []) := by
  refine call_of (E := E) (sh := sh) (ct := ctOf [(81, s81)]) (na := 1) (m := 0) (ctOf_cons s81_ok ctOf_nil) rfl rfl rfl rfl rfl rfl ?_
  rw [t34]
  simp only [nd_ok, nd_lab, nd_rows, nd_kids, encL_length, isL_enc, decL_enc, wrap_hd, hd_pos, ld_br, ld_chk', ld_leaf, fd_br, fd_chk', fd_leaf, decide_true, decide_eq_true_eq, if_true, Int.toNat_natCast, Int.natCast_nonneg, Int.ofNat_lt, Int.ofNat_le, Bool.false_eq_true, if_false, bne_iff_ne, beq_iff_eq, ne_eq, not_true_eq_false, not_false_eq_true, Bool.not_eq_true', decide_eq_false_iff_not, reduceCtorEq, rows_length, pcs_length, er_ok, er_ok', ep_ok, ep_ok', dr_er, dp_ep, isRows_rows, isPcs_pcs, toRows_rows, toPcs_pcs, rows_take, rows_drop, pcs_take, pcs_drop, rows_append, pcs_append, ints_length, isInts_ints, toInts_ints, ei_i, ei_ok, mk_headD, ints_take, ints_drop, ints_append, ints_snoc, ints_snoc', List.take_length, Nat.zero_add, Nat.le_refl, er_a, er_b, er_k, er_n, er_s, er_v, ep_a, ep_b, ep_hk, ep_hn, ep_hs, ep_wk, ep_wn, ep_ws, hn]
def s34 : CSpec := fun a h => match a, h with
  | [.agg [.c (.str s), .c (.sl 5 rn rt xs), .c (.sl 3 kn kt ys)]], [] => some ([isRows xs, isL ys, decide ((entL (decL ys)).length < 1000000000)], [.c (.sl 2 none false (ents (entP (.node s (toRows xs) (decL ys)))))], [])
  | _, _ => none
theorem s34_ok : CSpecOk E 34 s34 := by
  intro a h cs vals h' he hc
  unfold s34 at he
  split at he <;> simp only [Option.some.injEq, Prod.mk.injEq, reduceCtorEq] at he
  rename_i s rn rt xs kn kt ys
  obtain ⟨rfl, rfl, rfl⟩ := he
  simp only [allT, Bool.and_true, Bool.and_eq_true, decide_eq_true_eq] at hc
  obtain ⟨h1, h2, h3⟩ := hc
  obtain ⟨rs, rfl⟩ := rows_ex h1
  obtain ⟨ks, rfl⟩ := isL_ex h2
  simp only [toRows_rows, decL_enc] at *
  exact f34 s rn rt rs kn kt ks h3
end Go.Proofs.YtgaabjmbnomimaaDoor
namespace Go.Proofs.YtgaabjmbnomimaaDoor
open Go Go.Ev
-- cse
set_option pp.deepTerms true
set_option pp.maxSteps 1000000
set_option pp.funBinderTypes true
set_option pp.coercions.types true
def s26 : CSpec := fun a h => match a, h with
  | [.c (.sl 5 nl tt xs), .c (.sl 5 nl2 t2 ys)], [] => some ([isRows xs, isRows ys, decide (xs.length ≤ 9223372036854775807)], [V.b (decide (toRows xs = toRows ys))], [])
  | _, _ => none
noncomputable abbrev p98 : Par := par E sh (ctOf []) 98 2 0
abbrev s98_0 (nl : Option Bool) (tt : Bool) (xs : List (List C)) (nl2 : Option Bool) (t2 : Bool) (ys : List (List C)) (i12 : Int) (i13 : Int) : Fr × Hp := ([(0, V.c (C.sl 5 nl tt xs)), (1, V.c (C.sl 5 nl2 t2 ys)), (12, V.c (C.int IntKind.i64 i12)), (13, V.c (C.int IntKind.i64 i13))], [])
noncomputable abbrev b98_0 : Code := loopAt (codeOf E (98)) 0
abbrev x98_0x0 : Ex × Fr × Hp := (Ex.ret, [(4, V.c (C.bool false))], [])
abbrev x98_0x1 (nl : Option Bool) (tt : Bool) (xs : List (List C)) (nl2 : Option Bool) (t2 : Bool) (ys : List (List C)) (i12 : Int) (i13 : Int) : Ex × Fr × Hp := (Ex.exit 0, [(0, V.c (C.sl 5 nl tt xs)), (1, V.c (C.sl 5 nl2 t2 ys)), (12, V.c (C.int IntKind.i64 i12)), (13, V.c (C.int IntKind.i64 i13)), (14, V.c (C.bool false))], [])
theorem t98_0 (nl : Option Bool) (tt : Bool) (xs : List (List C)) (nl2 : Option Bool) (t2 : Bool) (ys : List (List C)) (i12 : Int) (i13 : Int) : p98.lts b98_0 (s98_0 nl tt xs nl2 t2 ys i12 i13) = (Tr.br (decide (i13 < i12)) (Tr.chk (decide (0 ≤ i13)) (Tr.chk true (Tr.chk (decide (i13.toNat < xs.length)) (Tr.chk (shOk [Sk.int IntKind.i64, Sk.int IntKind.i64, Sk.int IntKind.i64, Sk.int IntKind.i64, Sk.str] (xs.getD i13.toNat [])) (Tr.chk (decide (0 ≤ i13)) (Tr.chk true (Tr.chk (decide (i13.toNat < ys.length)) (Tr.chk (shOk [Sk.int IntKind.i64, Sk.int IntKind.i64, Sk.int IntKind.i64, Sk.int IntKind.i64, Sk.str] (ys.getD i13.toNat [])) (Tr.br (!(((xs.getD i13.toNat []).headD C.pnil).i == ((ys.getD i13.toNat []).headD C.pnil).i && (((xs.getD i13.toNat []).tail.headD C.pnil).i == ((ys.getD i13.toNat []).tail.headD C.pnil).i && (((xs.getD i13.toNat []).tail.tail.headD C.pnil).i == ((ys.getD i13.toNat []).tail.tail.headD C.pnil).i && (((xs.getD i13.toNat []).tail.tail.tail.headD C.pnil).i == ((ys.getD i13.toNat []).tail.tail.tail.headD C.pnil).i && (((xs.getD i13.toNat []).tail.tail.tail.tail.headD C.pnil).st == ((ys.getD i13.toNat []).tail.tail.tail.tail.headD C.pnil).st && true)))))) (Tr.leaf (R.x x98_0x0)) (Tr.leaf (R.s (s98_0 nl tt xs nl2 t2 ys i12 (IntKind.i64.wrap (i13 + 1)))))))))))))) (Tr.leaf (R.x (x98_0x1 nl tt xs nl2 t2 ys i12 i13)))) := by kernel_rfl
theorem k98_0x0 : p98.fkx 0 x98_0x0 = (Tr.leaf (R.out [V.c (C.bool false)] [])) := by kernel_rfl
theorem k98_0x1 (nl : Option Bool) (tt : Bool) (xs : List (List C)) (nl2 : Option Bool) (t2 : Bool) (ys : List (List C)) (i12 : Int) (i13 : Int) : p98.fkx 0 (x98_0x1 nl tt xs nl2 t2 ys i12 i13) = (Tr.leaf (R.out [V.c (C.bool true)] [])) := by kernel_rfl
theorem t98 (nl : Option Bool) (tt : Bool) (xs : List (List C)) (nl2 : Option Bool) (t2 : Bool) (ys : List (List C)) : p98.ft ([V.c (C.sl 5 nl tt xs), V.c (C.sl 5 nl2 t2 ys)]) ([]) = (Tr.br ((↑xs.length : Int) != (↑ys.length : Int)) (Tr.leaf (R.out [V.c (C.bool false)] [])) (Tr.ls 0 (s98_0 nl tt xs nl2 t2 ys ((↑xs.length : Int)) (0)))) := by kernel_rfl
mutual
def sameT : Nd → Nd → Bool
  | .node a r k, .node b s l => decide (a = b) && decide (r = s) && sameL k l
def sameL : List Nd → List Nd → Bool
  | [], [] => true
  | x :: p, y :: q => sameT x y && sameL p q
  | _, _ => false
end
variable (dd : Nat)
def s17 : CSpec := fun a h => match a, h with
  | [.agg [.c (.str s), .c (.sl 5 rn rt xs), .c (.sl 3 kn kt ys)], .agg [.c (.str s2), .c (.sl 5 rn2 rt2 xs2), .c (.sl 3 kn2 kt2 ys2)]], [] => some ([isRows xs, isL ys, isRows xs2, isL ys2, decide (depL (decL ys) < dd), lensT (.node s (toRows xs) (decL ys))], [V.b (sameT (.node s (toRows xs) (decL ys)) (.node s2 (toRows xs2) (decL ys2)))], [])
  | _, _ => none
noncomputable abbrev p17 : Par := par E sh (ctOf [(26, s26), (17, s17 dd)]) 17 2 0
abbrev s17_0 (s : List UInt8) (rn : Option Bool) (rt : Bool) (xs : List (List C)) (kn : Option Bool) (kt : Bool) (ys : List (List C)) (s2 : List UInt8) (rn2 : Option Bool) (rt2 : Bool) (xs2 : List (List C)) (kn2 : Option Bool) (kt2 : Bool) (ys2 : List (List C)) (i5 : Int) : Fr × Hp := ([(2, V.ptr 0 0 0 0), (3, V.ptr 1 0 0 0), (5, V.c (C.int IntKind.i64 i5))], [O.box [V.c (C.str s), V.c (C.sl 5 rn rt xs), V.c (C.sl 3 kn kt ys)], O.box [V.c (C.str s2), V.c (C.sl 5 rn2 rt2 xs2), V.c (C.sl 3 kn2 kt2 ys2)]])
noncomputable abbrev b17_0 : Code := loopAt (codeOf E (17)) 0
abbrev x17_0x0 (s : List UInt8) (rn : Option Bool) (rt : Bool) (xs : List (List C)) (kn : Option Bool) (kt : Bool) (ys : List (List C)) (s2 : List UInt8) (rn2 : Option Bool) (rt2 : Bool) (xs2 : List (List C)) (kn2 : Option Bool) (kt2 : Bool) (ys2 : List (List C)) : Ex × Fr × Hp := (Ex.ret, [(4, V.c (C.bool false))], [O.box [V.c (C.str s), V.c (C.sl 5 rn rt xs), V.c (C.sl 3 kn kt ys)], O.box [V.c (C.str s2), V.c (C.sl 5 rn2 rt2 xs2), V.c (C.sl 3 kn2 kt2 ys2)]])
abbrev x17_0x1 (s : List UInt8) (rn : Option Bool) (rt : Bool) (xs : List (List C)) (kn : Option Bool) (kt : Bool) (ys : List (List C)) (s2 : List UInt8) (rn2 : Option Bool) (rt2 : Bool) (xs2 : List (List C)) (kn2 : Option Bool) (kt2 : Bool) (ys2 : List (List C)) (i5 : Int) : Ex × Fr × Hp := (Ex.exit 0, [(2, V.ptr 0 0 0 0), (3, V.ptr 1 0 0 0), (5, V.c (C.int IntKind.i64 i5)), (32, V.c (C.bool false))], [O.box [V.c (C.str s), V.c (C.sl 5 rn rt xs), V.c (C.sl 3 kn kt ys)], O.box [V.c (C.str s2), V.c (C.sl 5 rn2 rt2 xs2), V.c (C.sl 3 kn2 kt2 ys2)]])
theorem t17_0 (s : List UInt8) (rn : Option Bool) (rt : Bool) (xs : List (List C)) (kn : Option Bool) (kt : Bool) (ys : List (List C)) (s2 : List UInt8) (rn2 : Option Bool) (rt2 : Bool) (xs2 : List (List C)) (kn2 : Option Bool) (kt2 : Bool) (ys2 : List (List C)) (i5 : Int) : (p17 dd).lts b17_0 (s17_0 s rn rt xs kn kt ys s2 rn2 rt2 xs2 kn2 kt2 ys2 i5) = (Tr.br (decide (i5 < (↑ys.length : Int))) (Tr.chk (decide (0 ≤ i5)) (Tr.chk true (Tr.chk (decide (i5.toNat < ys.length)) (Tr.chk (shOk [Sk.str, Sk.sl 5, Sk.sl 3] (ys.getD i5.toNat [])) (Tr.chk (decide (0 ≤ i5)) (Tr.chk true (Tr.chk (decide (i5.toNat < ys2.length)) (Tr.chk (shOk [Sk.str, Sk.sl 5, Sk.sl 3] (ys2.getD i5.toNat [])) (Tr.chk (isRows ((ys.getD i5.toNat []).tail.headD C.pnil).xs) (Tr.chk (isL ((ys.getD i5.toNat []).tail.tail.headD C.pnil).xs) (Tr.chk (isRows ((ys2.getD i5.toNat []).tail.headD C.pnil).xs) (Tr.chk (isL ((ys2.getD i5.toNat []).tail.tail.headD C.pnil).xs) (Tr.chk (decide (depL (decL ((ys.getD i5.toNat []).tail.tail.headD C.pnil).xs) < dd)) (Tr.chk (lensT (Nd.node ((ys.getD i5.toNat []).headD C.pnil).st (toRows ((ys.getD i5.toNat []).tail.headD C.pnil).xs) (decL ((ys.getD i5.toNat []).tail.tail.headD C.pnil).xs))) (Tr.br (!sameT (Nd.node ((ys.getD i5.toNat []).headD C.pnil).st (toRows ((ys.getD i5.toNat []).tail.headD C.pnil).xs) (decL ((ys.getD i5.toNat []).tail.tail.headD C.pnil).xs)) (Nd.node ((ys2.getD i5.toNat []).headD C.pnil).st (toRows ((ys2.getD i5.toNat []).tail.headD C.pnil).xs) (decL ((ys2.getD i5.toNat []).tail.tail.headD C.pnil).xs))) (Tr.leaf (R.x (x17_0x0 s rn rt xs kn kt ys s2 rn2 rt2 xs2 kn2 kt2 ys2))) (Tr.leaf (R.s (s17_0 s rn rt xs kn kt ys s2 rn2 rt2 xs2 kn2 kt2 ys2 (IntKind.i64.wrap (i5 + 1)))))))))))))))))))) (Tr.leaf (R.x (x17_0x1 s rn rt xs kn kt ys s2 rn2 rt2 xs2 kn2 kt2 ys2 i5)))) := by kernel_rfl
theorem k17_0x0 (dd : Nat) (s : List UInt8) (rn : Option Bool) (rt : Bool) (xs : List (List C)) (kn : Option Bool) (kt : Bool) (ys : List (List C)) (s2 : List UInt8) (rn2 : Option Bool) (rt2 : Bool) (xs2 : List (List C)) (kn2 : Option Bool) (kt2 : Bool) (ys2 : List (List C)) : (p17 dd).fkx 0 (x17_0x0 s rn rt xs kn kt ys s2 rn2 rt2 xs2 kn2 kt2 ys2) = (Tr.leaf (R.out [V.c (C.bool false)] [])) := by kernel_rfl
theorem k17_0x1 (dd : Nat) (s : List UInt8) (rn : Option Bool) (rt : Bool) (xs : List (List C)) (kn : Option Bool) (kt : Bool) (ys : List (List C)) (s2 : List UInt8) (rn2 : Option Bool) (rt2 : Bool) (xs2 : List (List C)) (kn2 : Option Bool) (kt2 : Bool) (ys2 : List (List C)) (i5 : Int) : (p17 dd).fkx 0 (x17_0x1 s rn rt xs kn kt ys s2 rn2 rt2 xs2 kn2 kt2 ys2 i5) = (Tr.leaf (R.out [V.c (C.bool true)] [])) := by kernel_rfl
theorem t17 (s : List UInt8) (rn : Option Bool) (rt : Bool) (xs : List (List C)) (kn : Option Bool) (kt : Bool) (ys : List (List C)) (s2 : List UInt8) (rn2 : Option Bool) (rt2 : Bool) (xs2 : List (List C)) (kn2 : Option Bool) (kt2 : Bool) (ys2 : List (List C)) : (p17 dd).ft ([V.agg [V.c (C.str s), V.c (C.sl 5 rn rt xs), V.c (C.sl 3 kn kt ys)], V.agg [V.c (C.str s2), V.c (C.sl 5 rn2 rt2 xs2), V.c (C.sl 3 kn2 kt2 ys2)]]) ([]) = (Tr.br (!s == s2) (Tr.leaf (R.out [V.c (C.bool false)] [])) (Tr.chk (isRows xs) (Tr.chk (isRows xs2) (Tr.chk (decide (xs.length ≤ 9223372036854775807)) (Tr.br (!decide (toRows xs = toRows xs2)) (Tr.leaf (R.out [V.c (C.bool false)] [])) (Tr.br ((↑ys.length : Int) != (↑ys2.length : Int)) (Tr.leaf (R.out [V.c (C.bool false)] [])) (Tr.ls 0 (s17_0 s rn rt xs kn kt ys s2 rn2 rt2 xs2 kn2 kt2 ys2 (0))))))))) := by kernel_rfl
end Go.Proofs.YtgaabjmbnomimaaDoor
namespace Go.Proofs.YtgaabjmbnomimaaDoor
open Go Go.Ev
theorem s26_ok : CSpecOk E 26 s26 := by
  intro a h cs vals h' he hc
  unfold s26 at he
  split at he <;> simp only [Option.some.injEq, Prod.mk.injEq, reduceCtorEq] at he
  rename_i nl tt xs nl2 t2 ys
  obtain ⟨rfl, rfl, rfl⟩ := he
  simp only [allT, Bool.and_true, Bool.and_eq_true, decide_eq_true_eq] at hc
  obtain ⟨h1, h2, h3⟩ := hc
  obtain ⟨l, rfl⟩ := rows_ex h1
  obtain ⟨m, rfl⟩ := rows_ex h2
  simp only [toRows_rows, rows_length] at *
  exact f26 l m nl tt nl2 t2 h3
theorem f98 (l m : List Row) (nl : Option Bool) (tt : Bool) (nl2 : Option Bool) (t2 : Bool) (hl : l.length ≤ 9223372036854775807) : call E 98 [.c (.sl 5 nl tt (rows l)), .c (.sl 5 nl2 t2 (rows m))] [] = some ([V.b (decide (l = m))], []) := by
  refine call_of (E := E) (sh := sh) (ct := ctOf []) (na := 2) (m := 0) ctOf_nil rfl rfl rfl rfl rfl rfl ?_
  rw [t98]
  simp only [ld_br, ld_chk', ld_leaf, fd_br, fd_chk', fd_leaf, decide_true, decide_eq_true_eq, if_true, Int.toNat_natCast, Int.natCast_nonneg, Int.ofNat_lt, Int.ofNat_le, Bool.false_eq_true, if_false, bne_iff_ne, beq_iff_eq, ne_eq, not_true_eq_false, not_false_eq_true, Bool.not_eq_true', decide_eq_false_iff_not, reduceCtorEq, rows_length, pcs_length, er_ok, er_ok', ep_ok, ep_ok', dr_er, dp_ep, isRows_rows, isPcs_pcs, toRows_rows, toPcs_pcs, rows_take, rows_drop, pcs_take, pcs_drop, rows_append, pcs_append, ints_length, isInts_ints, toInts_ints, ei_i, ei_ok, mk_headD, ints_take, ints_drop, ints_append, ints_snoc, ints_snoc', List.take_length, Nat.zero_add, Nat.le_refl, er_a, er_b, er_k, er_n, er_s, er_v, ep_a, ep_b, ep_hk, ep_hn, ep_hs, ep_wk, ep_wn, ep_ws]
  by_cases h : l.length = m.length
  · have h' : ¬ ¬ (l.length : Int) = m.length := by omega
    rw [if_neg h']
    refine fd_post ctOf_nil (by kernel_rfl) rfl (list_post ctOf_nil (b := b98_0) l.length (fun k (_ : Unit) => s98_0 nl tt (rows l) nl2 t2 (rows m) l.length k) (fun k _ => l.take k = m.take k) _ ?_ ?_ 0 (Nat.zero_le _) () (by rfl))
    · intro k _ hk hi
      have hm : k < m.length := by omega
      rw [t98_0]
      simp only [ld_br, ld_chk', ld_leaf, fd_br, fd_chk', fd_leaf, decide_true, decide_eq_true_eq, if_true, Int.toNat_natCast, Int.natCast_nonneg, Int.ofNat_lt, Int.ofNat_le, Bool.false_eq_true, if_false, bne_iff_ne, beq_iff_eq, ne_eq, not_true_eq_false, not_false_eq_true, Bool.not_eq_true', decide_eq_false_iff_not, reduceCtorEq, rows_length, pcs_length, er_ok, er_ok', ep_ok, ep_ok', dr_er, dp_ep, isRows_rows, isPcs_pcs, toRows_rows, toPcs_pcs, rows_take, rows_drop, pcs_take, pcs_drop, rows_append, pcs_append, ints_length, isInts_ints, toInts_ints, ei_i, ei_ok, mk_headD, ints_take, ints_drop, ints_append, ints_snoc, ints_snoc', List.take_length, Nat.zero_add, Nat.le_refl, er_a, er_b, er_k, er_n, er_s, er_v, ep_a, ep_b, ep_hk, ep_hn, ep_hs, ep_wk, ep_wn, ep_ws, hk, hm, rows_getD hk, rows_getD hm, row_eqb, wrap_succ (show k < 9223372036854775807 by omega)]
      by_cases he : l[k] = m[k]
      · left
        exact ⟨(), take_ext hi hk hm he, by simp [he]⟩
      · right
        refine ⟨x98_0x0, by simp, ?_, by simp [he]⟩
        rw [k98_0x0, fd_leaf, decide_eq_false (fun e => he (by subst e; rfl))]
    · intro _ hi
      rw [t98_0]
      refine ⟨x98_0x1 nl tt (rows l) nl2 t2 (rows m) l.length l.length, by simp, ?_, by simp only [ld_br, ld_chk', ld_leaf, fd_br, fd_chk', fd_leaf, decide_true, decide_eq_true_eq, if_true, Int.toNat_natCast, Int.natCast_nonneg, Int.ofNat_lt, Int.ofNat_le, Bool.false_eq_true, if_false, bne_iff_ne, beq_iff_eq, ne_eq, not_true_eq_false, not_false_eq_true, Bool.not_eq_true', decide_eq_false_iff_not, reduceCtorEq, rows_length, pcs_length, er_ok, er_ok', ep_ok, ep_ok', dr_er, dp_ep, isRows_rows, isPcs_pcs, toRows_rows, toPcs_pcs, rows_take, rows_drop, pcs_take, pcs_drop, rows_append, pcs_append, ints_length, isInts_ints, toInts_ints, ei_i, ei_ok, mk_headD, ints_take, ints_drop, ints_append, ints_snoc, ints_snoc', List.take_length, Nat.zero_add, Nat.le_refl, er_a, er_b, er_k, er_n, er_s, er_v, ep_a, ep_b, ep_hk, ep_hn, ep_hs, ep_wk, ep_wn, ep_ws, Int.lt_irrefl]⟩
      rw [List.take_length, h, List.take_length] at hi
      rw [k98_0x1, fd_leaf, decide_eq_true hi]
  · have h' : ¬ (l.length : Int) = m.length := by omega
    rw [if_pos h', decide_eq_false (fun e => h (by rw [e]))]
def s98 : CSpec := fun a h => match a, h with
  | [.c (.sl 5 nl tt xs), .c (.sl 5 nl2 t2 ys)], [] => some ([isRows xs, isRows ys, decide (xs.length ≤ 9223372036854775807)], [V.b (decide (toRows xs = toRows ys))], [])
  | _, _ => none
theorem s98_ok : CSpecOk E 98 s98 := by
  intro a h cs vals h' he hc
  unfold s98 at he
  split at he <;> simp only [Option.some.injEq, Prod.mk.injEq, reduceCtorEq] at he
  rename_i nl tt xs nl2 t2 ys
  obtain ⟨rfl, rfl, rfl⟩ := he
  simp only [allT, Bool.and_true, Bool.and_eq_true, decide_eq_true_eq] at hc
  obtain ⟨h1, h2, h3⟩ := hc
  obtain ⟨l, rfl⟩ := rows_ex h1
  obtain ⟨m, rfl⟩ := rows_ex h2
  simp only [toRows_rows, rows_length] at *
  exact f98 l m nl tt nl2 t2 h3
mutual
theorem sameT_iff : ∀ (a b : Nd), sameT a b = true ↔ a = b
  | .node a r k, .node b s l => by
    rw [sameT]
    simp only [Bool.and_eq_true, decide_eq_true_eq, sameL_iff k l, Nd.node.injEq, and_assoc]
theorem sameL_iff : ∀ (a b : List Nd), sameL a b = true ↔ a = b
  | [], [] => by simp [sameL]
  | x :: p, y :: q => by simp only [sameL, Bool.and_eq_true, sameT_iff x y, sameL_iff p q, List.cons.injEq]
  | [], _ :: _ => by simp [sameL]
  | _ :: _, [] => by simp [sameL]
end
theorem sameT_refl (a : Nd) : sameT a a = true := (sameT_iff a a).2 rfl
theorem sameT_dec (a b : Nd) : sameT a b = false ↔ a ≠ b := by rw [← Bool.not_eq_true, sameT_iff]
theorem sameL_ne {a b : List Nd} (h : a ≠ b) : sameL a b = false := by rw [← Bool.not_eq_true, sameL_iff]; exact h
theorem f17 (dd : Nat) (ih : CSpecOk E 17 (s17 dd)) (t t2 : Nd) (rn : Option Bool) (rt : Bool) (kn : Option Bool) (kt : Bool) (rn2 : Option Bool) (rt2 : Bool) (kn2 : Option Bool) (kt2 : Bool) (hd : depL t.kids < dd + 1) (hl : lensT t = true) :
    call E 17 [.agg [.c (.str t.lab), .c (.sl 5 rn rt (rows t.rows)), .c (.sl 3 kn kt (encL t.kids))], .agg [.c (.str t2.lab), .c (.sl 5 rn2 rt2 (rows t2.rows)), .c (.sl 3 kn2 kt2 (encL t2.kids))]] [] = some ([V.b (sameT t t2)], []) := by
  have hct : (ctOf [(26, s26), (17, s17 dd)]).ok E := ctOf_cons s26_ok (ctOf_cons ih ctOf_nil)
  refine call_of (E := E) (sh := sh) (ct := ctOf [(26, s26), (17, s17 dd)]) (na := 2) (m := 0) hct rfl rfl rfl rfl rfl rfl ?_
  show (p17 dd).fd ((p17 dd).ft _ _) = _
  obtain ⟨s, rs, ks⟩ := t
  obtain ⟨s2, rs2, ks2⟩ := t2
  rw [lensT] at hl
  simp only [Nd.lab_node, Nd.rows_node, Nd.kids_node, Bool.and_eq_true, decide_eq_true_eq] at hd hl ⊢
  obtain ⟨⟨⟨l1, l2⟩, l3⟩, l4⟩ := hl
  rw [t17, sameT]
  have e1 : (!s == s2) = !decide (s = s2) := by rw [beqL]
  simp only [nd_ok, nd_lab, nd_rows, nd_kids, encL_length, isL_enc, decL_enc, wrap_hd, hd_pos, ld_br, ld_chk', ld_leaf, fd_br, fd_chk', fd_leaf, decide_true, decide_eq_true_eq, if_true, Int.toNat_natCast, Int.natCast_nonneg, Int.ofNat_lt, Int.ofNat_le, Bool.false_eq_true, if_false, bne_iff_ne, beq_iff_eq, ne_eq, not_true_eq_false, not_false_eq_true, Bool.not_eq_true', decide_eq_false_iff_not, reduceCtorEq, rows_length, pcs_length, er_ok, er_ok', ep_ok, ep_ok', dr_er, dp_ep, isRows_rows, isPcs_pcs, toRows_rows, toPcs_pcs, rows_take, rows_drop, pcs_take, pcs_drop, rows_append, pcs_append, ints_length, isInts_ints, toInts_ints, ei_i, ei_ok, mk_headD, ints_take, ints_drop, ints_append, ints_snoc, ints_snoc', List.take_length, Nat.zero_add, Nat.le_refl, er_a, er_b, er_k, er_n, er_s, er_v, ep_a, ep_b, ep_hk, ep_hn, ep_hs, ep_wk, ep_wn, ep_ws, e1, l2]
  by_cases c1 : s = s2
  case neg => simp [c1]
  by_cases c2 : rs = rs2
  case neg => simp [c1, c2]
  by_cases c3 : ks.length = ks2.length
  case neg =>
    have : ks ≠ ks2 := fun e => c3 (by rw [e])
    rw [sameL_ne this]
    simp [c1, c2, show ¬ (ks.length : Int) = ks2.length by omega]
  subst c1; subst c2
  have c3' : (ks.length : Int) = ks2.length := by omega
  simp only [c3', decide_true, Bool.not_true, Bool.false_eq_true, if_false, Bool.true_and, not_true_eq_false]
  refine fd_post hct (by kernel_rfl) rfl (list_post (p := p17 dd) hct (b := b17_0) ks.length (fun k (_ : Unit) => s17_0 s rn rt (rows rs) kn kt (encL ks) s rn2 rt2 (rows rs) kn2 kt2 (encL ks2) k) (fun k _ => ks.take k = ks2.take k) _ ?_ ?_ 0 (Nat.zero_le _) () (by simp))
  · intro k _ hk hi
    have hm : k < ks2.length := by omega
    have hkid : depL ks[k].kids < dd := by have := depL_kid (List.getElem_mem hk); omega
    rw [t17_0]
    simp only [nd_ok, nd_lab, nd_rows, nd_kids, encL_length, isL_enc, decL_enc, wrap_hd, hd_pos, ld_br, ld_chk', ld_leaf, fd_br, fd_chk', fd_leaf, decide_true, decide_eq_true_eq, if_true, Int.toNat_natCast, Int.natCast_nonneg, Int.ofNat_lt, Int.ofNat_le, Bool.false_eq_true, if_false, bne_iff_ne, beq_iff_eq, ne_eq, not_true_eq_false, not_false_eq_true, Bool.not_eq_true', decide_eq_false_iff_not, reduceCtorEq, rows_length, pcs_length, er_ok, er_ok', ep_ok, ep_ok', dr_er, dp_ep, isRows_rows, isPcs_pcs, toRows_rows, toPcs_pcs, rows_take, rows_drop, pcs_take, pcs_drop, rows_append, pcs_append, ints_length, isInts_ints, toInts_ints, ei_i, ei_ok, mk_headD, ints_take, ints_drop, ints_append, ints_snoc, ints_snoc', List.take_length, Nat.zero_add, Nat.le_refl, er_a, er_b, er_k, er_n, er_s, er_v, ep_a, ep_b, ep_hk, ep_hn, ep_hs, ep_wk, ep_wn, ep_ws, hk, hm, encL_getD hk, encL_getD hm, nd_node, hkid, lensL_mem l4 (List.getElem_mem hk), wrap_succ (show k < 9223372036854775807 by omega)]
    by_cases he : ks[k] = ks2[k]
    · left
      refine ⟨(), take_ext hi hk hm he, ?_⟩
      rw [(sameT_iff _ _).2 he]; rfl
    · right
      refine ⟨x17_0x0 s rn rt (rows rs) kn kt (encL ks) s rn2 rt2 (rows rs) kn2 kt2 (encL ks2), by simp, ?_, by rw [(sameT_dec _ _).2 he]; rfl⟩
      rw [k17_0x0, fd_leaf, sameL_ne (fun e => he (by subst e; rfl))]
  · intro _ hi
    rw [t17_0]
    refine ⟨x17_0x1 s rn rt (rows rs) kn kt (encL ks) s rn2 rt2 (rows rs) kn2 kt2 (encL ks2) ks.length, by simp, ?_, by simp only [nd_ok, nd_lab, nd_rows, nd_kids, encL_length, isL_enc, decL_enc, wrap_hd, hd_pos, ld_br, ld_chk', ld_leaf, fd_br, fd_chk', fd_leaf, decide_true, decide_eq_true_eq, if_true, Int.toNat_natCast, Int.natCast_nonneg, Int.ofNat_lt, Int.ofNat_le, Bool.false_eq_true, if_false, bne_iff_ne, beq_iff_eq, ne_eq, not_true_eq_false, not_false_eq_true, Bool.not_eq_true', decide_eq_false_iff_not, reduceCtorEq, rows_length, pcs_length, er_ok, er_ok', ep_ok, ep_ok', dr_er, dp_ep, isRows_rows, isPcs_pcs, toRows_rows, toPcs_pcs, rows_take, rows_drop, pcs_take, pcs_drop, rows_append, pcs_append, ints_length, isInts_ints, toInts_ints, ei_i, ei_ok, mk_headD, ints_take, ints_drop, ints_append, ints_snoc, ints_snoc', List.take_length, Nat.zero_add, Nat.le_refl, er_a, er_b, er_k, er_n, er_s, er_v, ep_a, ep_b, ep_hk, ep_hn, ep_hs, ep_wk, ep_wn, ep_ws, Int.lt_irrefl]⟩
    rw [List.take_length, c3, List.take_length] at hi
    rw [k17_0x1, fd_leaf, (sameL_iff _ _).2 hi]
theorem s17_ok : ∀ d, CSpecOk E 17 (s17 d)
  | 0 => by
    intro a h cs vals h' he hc
    unfold s17 at he
    split at he <;> simp only [Option.some.injEq, Prod.mk.injEq, reduceCtorEq] at he
    obtain ⟨rfl, rfl, rfl⟩ := he
    simp [allT] at hc
  | d + 1 => by
    intro a h cs vals h' he hc
    unfold s17 at he
    split at he <;> simp only [Option.some.injEq, Prod.mk.injEq, reduceCtorEq] at he
    rename_i s rn rt xs kn kt ys s2 rn2 rt2 xs2 kn2 kt2 ys2
    obtain ⟨rfl, rfl, rfl⟩ := he
    simp only [allT, Bool.and_true, Bool.and_eq_true, decide_eq_true_eq] at hc
    obtain ⟨h1, h2, h3, h4, h5, h6⟩ := hc
    obtain ⟨rs, rfl⟩ := rows_ex h1
    obtain ⟨ks, rfl⟩ := isL_ex h2
    obtain ⟨rs2, rfl⟩ := rows_ex h3
    obtain ⟨ks2, rfl⟩ := isL_ex h4
    simp only [toRows_rows, decL_enc] at *
    exact f17 d (s17_ok d) (.node s rs ks) (.node s2 rs2 ks2) rn rt kn kt rn2 rt2 kn2 kt2 h5 h6
/-- Same, at whatever depth. -/
def s17n : CSpec := fun a h => match a, h with
  | [.agg [.c (.str s), .c (.sl 5 rn rt xs), .c (.sl 3 kn kt ys)], .agg [.c (.str s2), .c (.sl 5 rn2 rt2 xs2), .c (.sl 3 kn2 kt2 ys2)]], [] => some ([isRows xs, isL ys, isRows xs2, isL ys2, lensT (.node s (toRows xs) (decL ys))], [V.b (sameT (.node s (toRows xs) (decL ys)) (.node s2 (toRows xs2) (decL ys2)))], [])
  | _, _ => none
theorem s17n_ok : CSpecOk E 17 s17n := by
  intro a h cs vals h' he hc
  unfold s17n at he
  split at he <;> simp only [Option.some.injEq, Prod.mk.injEq, reduceCtorEq] at he
  rename_i s rn rt xs kn kt ys s2 rn2 rt2 xs2 kn2 kt2 ys2
  obtain ⟨rfl, rfl, rfl⟩ := he
  simp only [allT, Bool.and_true, Bool.and_eq_true, decide_eq_true_eq] at hc
  obtain ⟨h1, h2, h3, h4, h6⟩ := hc
  obtain ⟨rs, rfl⟩ := rows_ex h1
  obtain ⟨ks, rfl⟩ := isL_ex h2
  obtain ⟨rs2, rfl⟩ := rows_ex h3
  obtain ⟨ks2, rfl⟩ := isL_ex h4
  simp only [toRows_rows, decL_enc] at *
  exact f17 (depL ks) (s17_ok _) (.node s rs ks) (.node s2 rs2 ks2) rn rt kn kt rn2 rt2 kn2 kt2 (Nat.lt_succ_self _) h6
end Go.Proofs.YtgaabjmbnomimaaDoor
namespace Go.Proofs.YtgaabjmbnomimaaDoor
open Go Go.Ev
-- cse
set_option pp.deepTerms true
set_option pp.maxSteps 1000000
set_option pp.funBinderTypes true
set_option pp.coercions.types true
def pick3 (i : Int) (a b c : List (List C)) : List (List C) := if i = 0 then a else if i = 1 then b else c
def s138 : CSpec := fun a h => match a, h with
  | [.c (.int .i64 i), .c (.int .i64 k), .ptr 0 0 0 0], [.box [.c (.str p), .c (.sl 5 n0 t0 x0), .c (.sl 5 n1 t1 x1), .c (.sl 5 n2 t2 x2)]] => some ([decide ((i = 1 ∧ k = 2) ∨ (i = 0 ∧ k = 2) ∨ (i = 0 ∧ k = 1)), isRows x0, isRows x1, isRows x2, decide (x0.length ≤ 9223372036854775807), decide (x1.length ≤ 9223372036854775807)], [V.b (decide (toRows (pick3 i x0 x1 x2) = toRows (pick3 k x0 x1 x2)))], [.box [.c (.str p), .c (.sl 5 n0 t0 x0), .c (.sl 5 n1 t1 x1), .c (.sl 5 n2 t2 x2)]])
  | _, _ => none
noncomputable abbrev p136 : Par := par E sh (ctOf [(28, s28)]) 136 1 0
theorem t136 (s : List UInt8) (rn : Option Bool) (rt : Bool) (xs : List (List C)) (kn : Option Bool) (kt : Bool) (ys : List (List C)) : p136.ft ([V.agg [V.c (C.str s), V.c (C.sl 5 rn rt xs), V.c (C.sl 3 kn kt ys)]]) ([]) = (Tr.chk (isRows xs) (Tr.chk (isL ys) (Tr.leaf (R.out [V.c (C.bool (checkT (Nd.node s (toRows xs) (decL ys)) != 0))] [])))) := by kernel_rfl
def s136 : CSpec := fun a h => match a, h with
  | [.agg [.c (.str s), .c (.sl 5 rn rt xs), .c (.sl 3 kn kt ys)]], [] => some ([isRows xs, isL ys], [V.b (!okR (.node s (toRows xs) (decL ys)))], [])
  | _, _ => none
noncomputable abbrev p142 : Par := par E sh (ctOf [(136, s136)]) 142 2 0
abbrev s142_0 (nl : Option Bool) (tt : Bool) (ys : List (List C)) (i7 : Int) (i8 : Int) : Fr × Hp := ([(0, V.c (C.sl 3 nl tt ys)), (1, V.fn 136 []), (7, V.c (C.int IntKind.i64 i7)), (8, V.c (C.int IntKind.i64 i8))], [])
noncomputable abbrev b142_0 : Code := loopAt (codeOf E (142)) 0
abbrev x142_0x0 (i8 : Int) : Ex × Fr × Hp := (Ex.ret, [(4, V.c (C.int IntKind.i64 i8))], [])
abbrev x142_0x1 (nl : Option Bool) (tt : Bool) (ys : List (List C)) (i7 : Int) (i8 : Int) : Ex × Fr × Hp := (Ex.exit 0, [(0, V.c (C.sl 3 nl tt ys)), (1, V.fn 136 []), (7, V.c (C.int IntKind.i64 i7)), (8, V.c (C.int IntKind.i64 i8)), (9, V.c (C.bool false))], [])
theorem t142_0 (nl : Option Bool) (tt : Bool) (ys : List (List C)) (i7 : Int) (i8 : Int) : p142.lts b142_0 (s142_0 nl tt ys i7 i8) = (Tr.br (decide (i8 < i7)) (Tr.chk (decide (0 ≤ i8)) (Tr.chk true (Tr.chk (decide (i8.toNat < ys.length)) (Tr.chk (shOk [Sk.str, Sk.sl 5, Sk.sl 3] (ys.getD i8.toNat [])) (Tr.chk (isRows ((ys.getD i8.toNat []).tail.headD C.pnil).xs) (Tr.chk (isL ((ys.getD i8.toNat []).tail.tail.headD C.pnil).xs) (Tr.br (!okR (Nd.node ((ys.getD i8.toNat []).headD C.pnil).st (toRows ((ys.getD i8.toNat []).tail.headD C.pnil).xs) (decL ((ys.getD i8.toNat []).tail.tail.headD C.pnil).xs))) (Tr.leaf (R.x (x142_0x0 i8))) (Tr.leaf (R.s (s142_0 nl tt ys i7 (IntKind.i64.wrap (i8 + 1)))))))))))) (Tr.leaf (R.x (x142_0x1 nl tt ys i7 i8)))) := by kernel_rfl
theorem k142_0x0 (i8 : Int) : p142.fkx 0 (x142_0x0 i8) = (Tr.leaf (R.out [V.c (C.int IntKind.i64 i8)] [])) := by kernel_rfl
theorem k142_0x1 (nl : Option Bool) (tt : Bool) (ys : List (List C)) (i7 : Int) (i8 : Int) : p142.fkx 0 (x142_0x1 nl tt ys i7 i8) = (Tr.leaf (R.out [V.c (C.int IntKind.i64 (-1))] [])) := by kernel_rfl
theorem t142 (nl : Option Bool) (tt : Bool) (ys : List (List C)) : p142.ft ([V.c (C.sl 3 nl tt ys), V.fn 136 []]) ([]) = (Tr.ls 0 (s142_0 nl tt ys ((↑ys.length : Int)) (0))) := by kernel_rfl
def idxT (f : Nd → Bool) : List Nd → Nat → Int
  | [], _ => -1
  | t :: r, k => if f t = true then k else idxT f r (k + 1)
def s142 : CSpec := fun a h => match a, h with
  | [.c (.sl 3 nl tt ys), .fn 136 []], [] => some ([isL ys, decide (ys.length ≤ 9223372036854775807)], [V.i (idxT (fun t => !okR t) (decL ys) 0)], [])
  | _, _ => none
noncomputable abbrev p104 : Par := par E sh (ctOf [(142, s142)]) 104 2 0
theorem t104 (nl : Option Bool) (tt : Bool) (ys : List (List C)) : p104.ft ([V.c (C.sl 3 nl tt ys), V.fn 136 []]) ([]) = (Tr.chk (isL ys) (Tr.chk (decide (ys.length ≤ 9223372036854775807)) (Tr.leaf (R.out [V.c (C.bool (decide (0 ≤ idxT (fun (t : Nd) => !okR t) (decL ys) 0)))] [])))) := by kernel_rfl
def s104 : CSpec := fun a h => match a, h with
  | [.c (.sl 3 nl tt ys), .fn 136 []], [] => some ([isL ys, decide (ys.length ≤ 9223372036854775807)], [V.b (!(decL ys).all okR)], [])
  | _, _ => none
noncomputable abbrev p93 : Par := par E sh (ctOf [(104, s104)]) 93 1 0
theorem t93 (nl : Option Bool) (tt : Bool) (ys : List (List C)) : p93.ft ([V.c (C.sl 3 nl tt ys)]) ([]) = (Tr.chk (isL ys) (Tr.chk (decide (ys.length ≤ 9223372036854775807)) (Tr.leaf (R.out [V.c (C.bool !!(decL ys).all okR)] [])))) := by kernel_rfl
noncomputable abbrev p94 : Par := par E sh (ctOf []) 94 1 0
theorem t94 (nl : Option Bool) (tt : Bool) (ys : List (List C)) : p94.ft ([V.c (C.sl 3 nl tt ys)]) ([]) = (Tr.leaf (R.out [V.fn 137 [V.ptr 0 0 0 0]] [O.box [V.c (C.sl 3 nl tt ys)]])) := by kernel_rfl
end Go.Proofs.YtgaabjmbnomimaaDoor
namespace Go.Proofs.YtgaabjmbnomimaaDoor
open Go Go.Ev
-- cse
set_option pp.deepTerms true
set_option pp.maxSteps 1000000
set_option pp.funBinderTypes true
set_option pp.coercions.types true
noncomputable abbrev p137 : Par := par E sh (ctOf [(34, s34)]) 137 2 2
noncomputable abbrev bU137 : Code := loopAt (codeOf E (137)) 1
noncomputable abbrev bA137 : Code := loopAt (loopAt (codeOf E (137)) 1) 0
noncomputable abbrev bB137 : Code := loopAt (loopAt (codeOf E (137)) 1) 1
abbrev u137 (kn : Option Bool) (kt : Bool) (xsh : List (List C)) (r : List (List V)) (q : Bool) (n0 : Option Bool) (t0 : Bool) (x0 : List (List C)) (n1 : Option Bool) (t1 : Bool) (x1 : List (List C)) (n2 : Option Bool) (t2 : Bool) (x2 : List (List C)) : Fr × Hp := ([(0, V.yl 1), (3, V.ptr 2 0 0 0)], [O.box [V.c (C.sl 3 kn kt xsh)], O.yo r q, O.mem 1 0 [[C.sl 2 n0 t0 x0], [C.sl 2 n1 t1 x1], [C.sl 2 n2 t2 x2]]])
abbrev sA137 (kn : Option Bool) (kt : Bool) (xsh : List (List C)) (r : List (List V)) (q : Bool) (n0 : Option Bool) (t0 : Bool) (x0 : List (List C)) (n1 : Option Bool) (t1 : Bool) (x1 : List (List C)) (n2 : Option Bool) (t2 : Bool) (x2 : List (List C)) (p : List UInt8) (i : Int) : Fr × Hp := ([(0, V.yl 1), (3, V.ptr 2 0 0 0), (6, V.ptr 3 0 0 0), (24, V.agg [V.c (C.sl 2 n0 t0 x0), V.c (C.sl 2 n1 t1 x1), V.c (C.sl 2 n2 t2 x2)]), (25, V.i i)], [O.box [V.c (C.sl 3 kn kt xsh)], O.yo r q, O.mem 1 0 [[C.sl 2 n0 t0 x0], [C.sl 2 n1 t1 x1], [C.sl 2 n2 t2 x2]], O.box [V.c (C.str p), V.c (C.sl 5 (some true) true []), V.c (C.sl 5 (some true) true []), V.c (C.sl 5 (some true) true [])]])
abbrev xA137 (kn : Option Bool) (kt : Bool) (xsh : List (List C)) (r : List (List V)) (q : Bool) (n0 : Option Bool) (t0 : Bool) (x0 : List (List C)) (n1 : Option Bool) (t1 : Bool) (x1 : List (List C)) (n2 : Option Bool) (t2 : Bool) (x2 : List (List C)) (p : List UInt8) : Ex × Fr × Hp := (Ex.exit 4, [(0, V.yl 1), (3, V.ptr 2 0 0 0), (6, V.ptr 3 0 0 0), (24, V.agg [V.c (C.sl 2 n0 t0 x0), V.c (C.sl 2 n1 t1 x1), V.c (C.sl 2 n2 t2 x2)]), (25, V.i 3), (26, V.b false)], [O.box [V.c (C.sl 3 kn kt xsh)], O.yo r q, O.mem 1 0 [[C.sl 2 n0 t0 x0], [C.sl 2 n1 t1 x1], [C.sl 2 n2 t2 x2]], O.box [V.c (C.str p), V.c (C.sl 5 (some true) true []), V.c (C.sl 5 (some true) true []), V.c (C.sl 5 (some true) true [])]])
abbrev sB137 (kn : Option Bool) (kt : Bool) (xsh : List (List C)) (r : List (List V)) (q : Bool) (n0 : Option Bool) (t0 : Bool) (x0 : List (List C)) (n1 : Option Bool) (t1 : Bool) (x1 : List (List C)) (n2 : Option Bool) (t2 : Bool) (x2 : List (List C)) (a0 : Option Bool) (b0 : Bool) (y0 : List (List C)) (a1 : Option Bool) (b1 : Bool) (y1 : List (List C)) (a2 : Option Bool) (b2 : Bool) (y2 : List (List C)) (p : List UInt8) (c0 : Option Bool) (d0 : Bool) (z0 : List (List C)) (c1 : Option Bool) (d1 : Bool) (z1 : List (List C)) (c2 : Option Bool) (d2 : Bool) (z2 : List (List C)) (i : Int) : Fr × Hp := ([(0, V.yl 1), (3, V.ptr 2 0 0 0), (6, V.ptr 3 0 0 0), (54, V.agg [V.c (C.sl 2 n0 t0 x0), V.c (C.sl 2 n1 t1 x1), V.c (C.sl 2 n2 t2 x2)]), (55, V.i i)], [O.box [V.c (C.sl 3 kn kt xsh)], O.yo r q, O.mem 1 0 [[C.sl 2 a0 b0 y0], [C.sl 2 a1 b1 y1], [C.sl 2 a2 b2 y2]], O.box [V.c (C.str p), V.c (C.sl 5 c0 d0 z0), V.c (C.sl 5 c1 d1 z1), V.c (C.sl 5 c2 d2 z2)]])
abbrev xB137 (kn : Option Bool) (kt : Bool) (xsh : List (List C)) (r : List (List V)) (q : Bool) (n0 : Option Bool) (t0 : Bool) (x0 : List (List C)) (n1 : Option Bool) (t1 : Bool) (x1 : List (List C)) (n2 : Option Bool) (t2 : Bool) (x2 : List (List C)) (a0 : Option Bool) (b0 : Bool) (y0 : List (List C)) (a1 : Option Bool) (b1 : Bool) (y1 : List (List C)) (a2 : Option Bool) (b2 : Bool) (y2 : List (List C)) (p : List UInt8) (c0 : Option Bool) (d0 : Bool) (z0 : List (List C)) (c1 : Option Bool) (d1 : Bool) (z1 : List (List C)) (c2 : Option Bool) (d2 : Bool) (z2 : List (List C)) : Ex × Fr × Hp := (Ex.exit 6, [(0, V.yl 1), (3, V.ptr 2 0 0 0), (6, V.ptr 3 0 0 0), (54, V.agg [V.c (C.sl 2 n0 t0 x0), V.c (C.sl 2 n1 t1 x1), V.c (C.sl 2 n2 t2 x2)]), (55, V.i 3), (56, V.b false)], [O.box [V.c (C.sl 3 kn kt xsh)], O.yo r q, O.mem 1 0 [[C.sl 2 a0 b0 y0], [C.sl 2 a1 b1 y1], [C.sl 2 a2 b2 y2]], O.box [V.c (C.str p), V.c (C.sl 5 c0 d0 z0), V.c (C.sl 5 c1 d1 z1), V.c (C.sl 5 c2 d2 z2)]])
abbrev xE137 (kn : Option Bool) (kt : Bool) (xsh : List (List C)) (r : List (List V)) (q : Bool) (n0 : Option Bool) (t0 : Bool) (x0 : List (List C)) (n1 : Option Bool) (t1 : Bool) (x1 : List (List C)) (n2 : Option Bool) (t2 : Bool) (x2 : List (List C)) (p : List UInt8) : Ex × Fr × Hp := (Ex.ret, [(0, V.yl 1), (3, V.ptr 2 0 0 0), (6, V.ptr 3 0 0 0), (53, V.b true)], [O.box [V.c (C.sl 3 kn kt xsh)], O.yo r q, O.mem 1 0 [[C.sl 2 n0 t0 x0], [C.sl 2 n1 t1 x1], [C.sl 2 n2 t2 x2]], O.box [V.c (C.str p), V.c (C.sl 5 (some true) true []), V.c (C.sl 5 (some true) true []), V.c (C.sl 5 (some true) true [])]])
abbrev s137_0 (kn : Option Bool) (kt : Bool) (r : List (List V)) (q : Bool) (xs11 : List (List C)) (i12 : Int) (i13 : Int) (xsh0 : List (List C)) (ys2 : List (List C)) : Fr × Hp := ([(0, V.yl 1), (3, V.ptr 2 0 0 0), (11, V.c (C.sl 3 kn kt xs11)), (12, V.c (C.int IntKind.i64 i12)), (13, V.c (C.int IntKind.i64 i13))], [O.box [V.c (C.sl 3 kn kt xsh0)], O.yo r q, O.mem 1 0 ys2])
noncomputable abbrev b137_0 : Code := loopAt (codeOf E (137)) 0
abbrev x137_0x0 (kn : Option Bool) (kt : Bool) (r : List (List V)) (q : Bool) (xs11 : List (List C)) (i12 : Int) (i13 : Int) (xsh0 : List (List C)) (ys2 : List (List C)) : Ex × Fr × Hp := (Ex.exit 0, [(0, V.yl 1), (3, V.ptr 2 0 0 0), (11, V.c (C.sl 3 kn kt xs11)), (12, V.c (C.int IntKind.i64 i12)), (13, V.c (C.int IntKind.i64 i13)), (14, V.c (C.bool false))], [O.box [V.c (C.sl 3 kn kt xsh0)], O.yo r q, O.mem 1 0 ys2])
abbrev s137_1 (kn : Option Bool) (kt : Bool) (r : List (List V)) (q : Bool) (xsh0 : List (List C)) (ys2 : List (List C)) : Fr × Hp := ([(0, V.yl 1), (3, V.ptr 2 0 0 0)], [O.box [V.c (C.sl 3 kn kt xsh0)], O.yo r q, O.mem 1 0 ys2])
theorem t137_0 (kn : Option Bool) (kt : Bool) (r : List (List V)) (q : Bool) (xs11 : List (List C)) (i12 : Int) (i13 : Int) (xsh0 : List (List C)) (ys2 : List (List C)) : p137.lts b137_0 (s137_0 kn kt r q xs11 i12 i13 xsh0 ys2) = (Tr.br (decide (i13 < i12)) (Tr.chk (decide (0 ≤ i13)) (Tr.chk true (Tr.chk (decide (i13.toNat < xs11.length)) (Tr.chk (shOk [Sk.str, Sk.sl 5, Sk.sl 3] (xs11.getD i13.toNat [])) (Tr.chk (isRows ((xs11.getD i13.toNat []).tail.headD C.pnil).xs) (Tr.chk (isL ((xs11.getD i13.toNat []).tail.tail.headD C.pnil).xs) (Tr.chk (decide ((entL (decL ((xs11.getD i13.toNat []).tail.tail.headD C.pnil).xs)).length < 1000000000)) (Tr.chk (decide (0 ≤ i13)) (Tr.chk (decide (i13 < (↑3 : Int))) (Tr.chk true (Tr.chk true (Tr.chk true (Tr.chk true (Tr.chk (decide (i13.toNat < ys2.length)) (Tr.chk true (Tr.chk (decide ((ys2.getD i13.toNat []).length = 1)) (Tr.leaf (R.s (s137_0 kn kt r q xs11 i12 (IntKind.i64.wrap (i13 + 1)) xsh0 (ys2.set i13.toNat [C.sl 2 none false (ents (entP (Nd.node ((xs11.getD i13.toNat []).headD C.pnil).st (toRows ((xs11.getD i13.toNat []).tail.headD C.pnil).xs) (decL ((xs11.getD i13.toNat []).tail.tail.headD C.pnil).xs))))])))))))))))))))))))) (Tr.leaf (R.x (x137_0x0 kn kt r q xs11 i12 i13 xsh0 ys2)))) := by kernel_rfl
theorem k137_0x0 (kn : Option Bool) (kt : Bool) (r : List (List V)) (q : Bool) (xs11 : List (List C)) (i12 : Int) (i13 : Int) (xsh0 : List (List C)) (ys2 : List (List C)) : p137.fkx 0 (x137_0x0 kn kt r q xs11 i12 i13 xsh0 ys2) = (Tr.ls 1 (s137_1 kn kt r q xsh0 ys2)) := by kernel_rfl
theorem t137u (kn : Option Bool) (kt : Bool) (xsh : List (List C)) (r : List (List V)) (q : Bool) (n0 : Option Bool) (t0 : Bool) (x0 : List (List C)) (n1 : Option Bool) (t1 : Bool) (x1 : List (List C)) (n2 : Option Bool) (t2 : Bool) (x2 : List (List C)) : p137.lts bU137 (u137 kn kt xsh r q n0 t0 x0 n1 t1 x1 n2 t2 x2) = Tr.ls 0 (sA137 kn kt xsh r q n0 t0 x0 n1 t1 x1 n2 t2 x2 [] 0) := by kernel_rfl
abbrev x137A0x0 (kn : Option Bool) (kt : Bool) (xsh : List (List C)) (r : List (List V)) (q : Bool) (n0 : Option Bool) (t0 : Bool) (x0 : List (List C)) (n1 : Option Bool) (t1 : Bool) (x1 : List (List C)) (n2 : Option Bool) (t2 : Bool) (x2 : List (List C)) (p : List UInt8) (ys2 : List (List C)) : Ex × Fr × Hp := (Ex.exit 4, [(0, V.yl 1), (3, V.ptr 2 0 0 0), (6, V.ptr 3 0 0 0), (24, V.agg [V.c (C.sl 2 n0 t0 x0), V.c (C.sl 2 n1 t1 x1), V.c (C.sl 2 n2 t2 x2)]), (25, V.c (C.int IntKind.i64 0)), (26, V.c (C.bool false))], [O.box [V.c (C.sl 3 kn kt xsh)], O.yo r q, O.mem 1 0 ys2, O.box [V.c (C.str p), V.c (C.sl 5 (some true) true []), V.c (C.sl 5 (some true) true []), V.c (C.sl 5 (some true) true [])]])
theorem t137A0 (kn : Option Bool) (kt : Bool) (xsh : List (List C)) (r : List (List V)) (q : Bool) (n0 : Option Bool) (t0 : Bool) (x0 : List (List C)) (n1 : Option Bool) (t1 : Bool) (x1 : List (List C)) (n2 : Option Bool) (t2 : Bool) (x2 : List (List C)) (p : List UInt8) : p137.lts bA137 (sA137 kn kt xsh r q n0 t0 x0 n1 t1 x1 n2 t2 x2 p 0) = (Tr.br true (Tr.br (decide (0 < (↑x0.length : Int))) (Tr.br (p == []) (Tr.chk true (Tr.chk true (Tr.chk (decide (Int.toNat 0 < x0.length)) (Tr.chk (shOk [Sk.str, Sk.sl 5] (x0.getD (Int.toNat 0) [])) (Tr.leaf (R.st Ex.nrm [(0, V.yl 1), (3, V.ptr 2 0 0 0), (6, V.ptr 3 0 0 0), (24, V.agg [V.c (C.sl 2 n0 t0 x0), V.c (C.sl 2 n1 t1 x1), V.c (C.sl 2 n2 t2 x2)]), (25, V.c (C.int IntKind.i64 1))] [O.box [V.c (C.sl 3 kn kt xsh)], O.yo r q, O.mem 1 0 [[C.sl 2 n0 t0 x0], [C.sl 2 n1 t1 x1], [C.sl 2 n2 t2 x2]], O.box [V.c (C.str ((x0.getD (Int.toNat 0) []).headD C.pnil).st), V.c (C.sl 5 (some true) true []), V.c (C.sl 5 (some true) true []), V.c (C.sl 5 (some true) true [])]])))))) (Tr.chk true (Tr.chk true (Tr.chk (decide (Int.toNat 0 < x0.length)) (Tr.chk (shOk [Sk.str, Sk.sl 5] (x0.getD (Int.toNat 0) [])) (Tr.br (Op.bytesLess ((x0.getD (Int.toNat 0) []).headD C.pnil).st p) (Tr.chk true (Tr.chk true (Tr.chk (decide (Int.toNat 0 < x0.length)) (Tr.chk (shOk [Sk.str, Sk.sl 5] (x0.getD (Int.toNat 0) [])) (Tr.leaf (R.st Ex.nrm [(0, V.yl 1), (3, V.ptr 2 0 0 0), (6, V.ptr 3 0 0 0), (24, V.agg [V.c (C.sl 2 n0 t0 x0), V.c (C.sl 2 n1 t1 x1), V.c (C.sl 2 n2 t2 x2)]), (25, V.c (C.int IntKind.i64 1))] [O.box [V.c (C.sl 3 kn kt xsh)], O.yo r q, O.mem 1 0 [[C.sl 2 n0 t0 x0], [C.sl 2 n1 t1 x1], [C.sl 2 n2 t2 x2]], O.box [V.c (C.str ((x0.getD (Int.toNat 0) []).headD C.pnil).st), V.c (C.sl 5 (some true) true []), V.c (C.sl 5 (some true) true []), V.c (C.sl 5 (some true) true [])]])))))) (Tr.leaf (R.st Ex.nrm [(0, V.yl 1), (3, V.ptr 2 0 0 0), (6, V.ptr 3 0 0 0), (24, V.agg [V.c (C.sl 2 n0 t0 x0), V.c (C.sl 2 n1 t1 x1), V.c (C.sl 2 n2 t2 x2)]), (25, V.c (C.int IntKind.i64 1))] [O.box [V.c (C.sl 3 kn kt xsh)], O.yo r q, O.mem 1 0 [[C.sl 2 n0 t0 x0], [C.sl 2 n1 t1 x1], [C.sl 2 n2 t2 x2]], O.box [V.c (C.str p), V.c (C.sl 5 (some true) true []), V.c (C.sl 5 (some true) true []), V.c (C.sl 5 (some true) true [])]])))))))) (Tr.leaf (R.st Ex.nrm [(0, V.yl 1), (3, V.ptr 2 0 0 0), (6, V.ptr 3 0 0 0), (24, V.agg [V.c (C.sl 2 n0 t0 x0), V.c (C.sl 2 n1 t1 x1), V.c (C.sl 2 n2 t2 x2)]), (25, V.c (C.int IntKind.i64 1))] [O.box [V.c (C.sl 3 kn kt xsh)], O.yo r q, O.mem 1 0 [[C.sl 2 n0 t0 x0], [C.sl 2 n1 t1 x1], [C.sl 2 n2 t2 x2]], O.box [V.c (C.str p), V.c (C.sl 5 (some true) true []), V.c (C.sl 5 (some true) true []), V.c (C.sl 5 (some true) true [])]]))) (Tr.leaf (R.x (x137A0x0 kn kt xsh r q n0 t0 x0 n1 t1 x1 n2 t2 x2 p ([[C.sl 2 n0 t0 x0], [C.sl 2 n1 t1 x1], [C.sl 2 n2 t2 x2]]))))) := by kernel_rfl
abbrev x137A1x0 (kn : Option Bool) (kt : Bool) (xsh : List (List C)) (r : List (List V)) (q : Bool) (n0 : Option Bool) (t0 : Bool) (x0 : List (List C)) (n1 : Option Bool) (t1 : Bool) (x1 : List (List C)) (n2 : Option Bool) (t2 : Bool) (x2 : List (List C)) (p : List UInt8) (ys2 : List (List C)) : Ex × Fr × Hp := (Ex.exit 4, [(0, V.yl 1), (3, V.ptr 2 0 0 0), (6, V.ptr 3 0 0 0), (24, V.agg [V.c (C.sl 2 n0 t0 x0), V.c (C.sl 2 n1 t1 x1), V.c (C.sl 2 n2 t2 x2)]), (25, V.c (C.int IntKind.i64 1)), (26, V.c (C.bool false))], [O.box [V.c (C.sl 3 kn kt xsh)], O.yo r q, O.mem 1 0 ys2, O.box [V.c (C.str p), V.c (C.sl 5 (some true) true []), V.c (C.sl 5 (some true) true []), V.c (C.sl 5 (some true) true [])]])
theorem t137A1 (kn : Option Bool) (kt : Bool) (xsh : List (List C)) (r : List (List V)) (q : Bool) (n0 : Option Bool) (t0 : Bool) (x0 : List (List C)) (n1 : Option Bool) (t1 : Bool) (x1 : List (List C)) (n2 : Option Bool) (t2 : Bool) (x2 : List (List C)) (p : List UInt8) : p137.lts bA137 (sA137 kn kt xsh r q n0 t0 x0 n1 t1 x1 n2 t2 x2 p 1) = (Tr.br true (Tr.br (decide (0 < (↑x1.length : Int))) (Tr.br (p == []) (Tr.chk true (Tr.chk true (Tr.chk (decide (Int.toNat 0 < x1.length)) (Tr.chk (shOk [Sk.str, Sk.sl 5] (x1.getD (Int.toNat 0) [])) (Tr.leaf (R.st Ex.nrm [(0, V.yl 1), (3, V.ptr 2 0 0 0), (6, V.ptr 3 0 0 0), (24, V.agg [V.c (C.sl 2 n0 t0 x0), V.c (C.sl 2 n1 t1 x1), V.c (C.sl 2 n2 t2 x2)]), (25, V.c (C.int IntKind.i64 2))] [O.box [V.c (C.sl 3 kn kt xsh)], O.yo r q, O.mem 1 0 [[C.sl 2 n0 t0 x0], [C.sl 2 n1 t1 x1], [C.sl 2 n2 t2 x2]], O.box [V.c (C.str ((x1.getD (Int.toNat 0) []).headD C.pnil).st), V.c (C.sl 5 (some true) true []), V.c (C.sl 5 (some true) true []), V.c (C.sl 5 (some true) true [])]])))))) (Tr.chk true (Tr.chk true (Tr.chk (decide (Int.toNat 0 < x1.length)) (Tr.chk (shOk [Sk.str, Sk.sl 5] (x1.getD (Int.toNat 0) [])) (Tr.br (Op.bytesLess ((x1.getD (Int.toNat 0) []).headD C.pnil).st p) (Tr.chk true (Tr.chk true (Tr.chk (decide (Int.toNat 0 < x1.length)) (Tr.chk (shOk [Sk.str, Sk.sl 5] (x1.getD (Int.toNat 0) [])) (Tr.leaf (R.st Ex.nrm [(0, V.yl 1), (3, V.ptr 2 0 0 0), (6, V.ptr 3 0 0 0), (24, V.agg [V.c (C.sl 2 n0 t0 x0), V.c (C.sl 2 n1 t1 x1), V.c (C.sl 2 n2 t2 x2)]), (25, V.c (C.int IntKind.i64 2))] [O.box [V.c (C.sl 3 kn kt xsh)], O.yo r q, O.mem 1 0 [[C.sl 2 n0 t0 x0], [C.sl 2 n1 t1 x1], [C.sl 2 n2 t2 x2]], O.box [V.c (C.str ((x1.getD (Int.toNat 0) []).headD C.pnil).st), V.c (C.sl 5 (some true) true []), V.c (C.sl 5 (some true) true []), V.c (C.sl 5 (some true) true [])]])))))) (Tr.leaf (R.st Ex.nrm [(0, V.yl 1), (3, V.ptr 2 0 0 0), (6, V.ptr 3 0 0 0), (24, V.agg [V.c (C.sl 2 n0 t0 x0), V.c (C.sl 2 n1 t1 x1), V.c (C.sl 2 n2 t2 x2)]), (25, V.c (C.int IntKind.i64 2))] [O.box [V.c (C.sl 3 kn kt xsh)], O.yo r q, O.mem 1 0 [[C.sl 2 n0 t0 x0], [C.sl 2 n1 t1 x1], [C.sl 2 n2 t2 x2]], O.box [V.c (C.str p), V.c (C.sl 5 (some true) true []), V.c (C.sl 5 (some true) true []), V.c (C.sl 5 (some true) true [])]])))))))) (Tr.leaf (R.st Ex.nrm [(0, V.yl 1), (3, V.ptr 2 0 0 0), (6, V.ptr 3 0 0 0), (24, V.agg [V.c (C.sl 2 n0 t0 x0), V.c (C.sl 2 n1 t1 x1), V.c (C.sl 2 n2 t2 x2)]), (25, V.c (C.int IntKind.i64 2))] [O.box [V.c (C.sl 3 kn kt xsh)], O.yo r q, O.mem 1 0 [[C.sl 2 n0 t0 x0], [C.sl 2 n1 t1 x1], [C.sl 2 n2 t2 x2]], O.box [V.c (C.str p), V.c (C.sl 5 (some true) true []), V.c (C.sl 5 (some true) true []), V.c (C.sl 5 (some true) true [])]]))) (Tr.leaf (R.x (x137A1x0 kn kt xsh r q n0 t0 x0 n1 t1 x1 n2 t2 x2 p ([[C.sl 2 n0 t0 x0], [C.sl 2 n1 t1 x1], [C.sl 2 n2 t2 x2]]))))) := by kernel_rfl
abbrev x137A2x0 (kn : Option Bool) (kt : Bool) (xsh : List (List C)) (r : List (List V)) (q : Bool) (n0 : Option Bool) (t0 : Bool) (x0 : List (List C)) (n1 : Option Bool) (t1 : Bool) (x1 : List (List C)) (n2 : Option Bool) (t2 : Bool) (x2 : List (List C)) (p : List UInt8) (ys2 : List (List C)) : Ex × Fr × Hp := (Ex.exit 4, [(0, V.yl 1), (3, V.ptr 2 0 0 0), (6, V.ptr 3 0 0 0), (24, V.agg [V.c (C.sl 2 n0 t0 x0), V.c (C.sl 2 n1 t1 x1), V.c (C.sl 2 n2 t2 x2)]), (25, V.c (C.int IntKind.i64 2)), (26, V.c (C.bool false))], [O.box [V.c (C.sl 3 kn kt xsh)], O.yo r q, O.mem 1 0 ys2, O.box [V.c (C.str p), V.c (C.sl 5 (some true) true []), V.c (C.sl 5 (some true) true []), V.c (C.sl 5 (some true) true [])]])
theorem t137A2 (kn : Option Bool) (kt : Bool) (xsh : List (List C)) (r : List (List V)) (q : Bool) (n0 : Option Bool) (t0 : Bool) (x0 : List (List C)) (n1 : Option Bool) (t1 : Bool) (x1 : List (List C)) (n2 : Option Bool) (t2 : Bool) (x2 : List (List C)) (p : List UInt8) : p137.lts bA137 (sA137 kn kt xsh r q n0 t0 x0 n1 t1 x1 n2 t2 x2 p 2) = (Tr.br true (Tr.br (decide (0 < (↑x2.length : Int))) (Tr.br (p == []) (Tr.chk true (Tr.chk true (Tr.chk (decide (Int.toNat 0 < x2.length)) (Tr.chk (shOk [Sk.str, Sk.sl 5] (x2.getD (Int.toNat 0) [])) (Tr.leaf (R.st Ex.nrm [(0, V.yl 1), (3, V.ptr 2 0 0 0), (6, V.ptr 3 0 0 0), (24, V.agg [V.c (C.sl 2 n0 t0 x0), V.c (C.sl 2 n1 t1 x1), V.c (C.sl 2 n2 t2 x2)]), (25, V.c (C.int IntKind.i64 3))] [O.box [V.c (C.sl 3 kn kt xsh)], O.yo r q, O.mem 1 0 [[C.sl 2 n0 t0 x0], [C.sl 2 n1 t1 x1], [C.sl 2 n2 t2 x2]], O.box [V.c (C.str ((x2.getD (Int.toNat 0) []).headD C.pnil).st), V.c (C.sl 5 (some true) true []), V.c (C.sl 5 (some true) true []), V.c (C.sl 5 (some true) true [])]])))))) (Tr.chk true (Tr.chk true (Tr.chk (decide (Int.toNat 0 < x2.length)) (Tr.chk (shOk [Sk.str, Sk.sl 5] (x2.getD (Int.toNat 0) [])) (Tr.br (Op.bytesLess ((x2.getD (Int.toNat 0) []).headD C.pnil).st p) (Tr.chk true (Tr.chk true (Tr.chk (decide (Int.toNat 0 < x2.length)) (Tr.chk (shOk [Sk.str, Sk.sl 5] (x2.getD (Int.toNat 0) [])) (Tr.leaf (R.st Ex.nrm [(0, V.yl 1), (3, V.ptr 2 0 0 0), (6, V.ptr 3 0 0 0), (24, V.agg [V.c (C.sl 2 n0 t0 x0), V.c (C.sl 2 n1 t1 x1), V.c (C.sl 2 n2 t2 x2)]), (25, V.c (C.int IntKind.i64 3))] [O.box [V.c (C.sl 3 kn kt xsh)], O.yo r q, O.mem 1 0 [[C.sl 2 n0 t0 x0], [C.sl 2 n1 t1 x1], [C.sl 2 n2 t2 x2]], O.box [V.c (C.str ((x2.getD (Int.toNat 0) []).headD C.pnil).st), V.c (C.sl 5 (some true) true []), V.c (C.sl 5 (some true) true []), V.c (C.sl 5 (some true) true [])]])))))) (Tr.leaf (R.st Ex.nrm [(0, V.yl 1), (3, V.ptr 2 0 0 0), (6, V.ptr 3 0 0 0), (24, V.agg [V.c (C.sl 2 n0 t0 x0), V.c (C.sl 2 n1 t1 x1), V.c (C.sl 2 n2 t2 x2)]), (25, V.c (C.int IntKind.i64 3))] [O.box [V.c (C.sl 3 kn kt xsh)], O.yo r q, O.mem 1 0 [[C.sl 2 n0 t0 x0], [C.sl 2 n1 t1 x1], [C.sl 2 n2 t2 x2]], O.box [V.c (C.str p), V.c (C.sl 5 (some true) true []), V.c (C.sl 5 (some true) true []), V.c (C.sl 5 (some true) true [])]])))))))) (Tr.leaf (R.st Ex.nrm [(0, V.yl 1), (3, V.ptr 2 0 0 0), (6, V.ptr 3 0 0 0), (24, V.agg [V.c (C.sl 2 n0 t0 x0), V.c (C.sl 2 n1 t1 x1), V.c (C.sl 2 n2 t2 x2)]), (25, V.c (C.int IntKind.i64 3))] [O.box [V.c (C.sl 3 kn kt xsh)], O.yo r q, O.mem 1 0 [[C.sl 2 n0 t0 x0], [C.sl 2 n1 t1 x1], [C.sl 2 n2 t2 x2]], O.box [V.c (C.str p), V.c (C.sl 5 (some true) true []), V.c (C.sl 5 (some true) true []), V.c (C.sl 5 (some true) true [])]]))) (Tr.leaf (R.x (x137A2x0 kn kt xsh r q n0 t0 x0 n1 t1 x1 n2 t2 x2 p ([[C.sl 2 n0 t0 x0], [C.sl 2 n1 t1 x1], [C.sl 2 n2 t2 x2]]))))) := by kernel_rfl
abbrev x137A3x0 (kn : Option Bool) (kt : Bool) (xsh : List (List C)) (r : List (List V)) (q : Bool) (n0 : Option Bool) (t0 : Bool) (x0 : List (List C)) (n1 : Option Bool) (t1 : Bool) (x1 : List (List C)) (n2 : Option Bool) (t2 : Bool) (x2 : List (List C)) (p : List UInt8) (ys2 : List (List C)) : Ex × Fr × Hp := (Ex.exit 4, [(0, V.yl 1), (3, V.ptr 2 0 0 0), (6, V.ptr 3 0 0 0), (24, V.agg [V.c (C.sl 2 n0 t0 x0), V.c (C.sl 2 n1 t1 x1), V.c (C.sl 2 n2 t2 x2)]), (25, V.c (C.int IntKind.i64 3)), (26, V.c (C.bool false))], [O.box [V.c (C.sl 3 kn kt xsh)], O.yo r q, O.mem 1 0 ys2, O.box [V.c (C.str p), V.c (C.sl 5 (some true) true []), V.c (C.sl 5 (some true) true []), V.c (C.sl 5 (some true) true [])]])
theorem t137A3 (kn : Option Bool) (kt : Bool) (xsh : List (List C)) (r : List (List V)) (q : Bool) (n0 : Option Bool) (t0 : Bool) (x0 : List (List C)) (n1 : Option Bool) (t1 : Bool) (x1 : List (List C)) (n2 : Option Bool) (t2 : Bool) (x2 : List (List C)) (p : List UInt8) : p137.lts bA137 (sA137 kn kt xsh r q n0 t0 x0 n1 t1 x1 n2 t2 x2 p 3) = (Tr.br false Tr.fail (Tr.leaf (R.x (x137A3x0 kn kt xsh r q n0 t0 x0 n1 t1 x1 n2 t2 x2 p ([[C.sl 2 n0 t0 x0], [C.sl 2 n1 t1 x1], [C.sl 2 n2 t2 x2]]))))) := by kernel_rfl
theorem t137v (kn : Option Bool) (kt : Bool) (xsh : List (List C)) (r : List (List V)) (q : Bool) (n0 : Option Bool) (t0 : Bool) (x0 : List (List C)) (n1 : Option Bool) (t1 : Bool) (x1 : List (List C)) (n2 : Option Bool) (t2 : Bool) (x2 : List (List C)) (p : List UInt8) : p137.lkx bU137 0 (xA137 kn kt xsh r q n0 t0 x0 n1 t1 x1 n2 t2 x2 p) = Tr.br (p == []) (Tr.leaf (R.x (xE137 kn kt xsh r q n0 t0 x0 n1 t1 x1 n2 t2 x2 p))) (Tr.ls 1 (sB137 kn kt xsh r q n0 t0 x0 n1 t1 x1 n2 t2 x2 n0 t0 x0 n1 t1 x1 n2 t2 x2 p (some true) true [] (some true) true [] (some true) true [] 0)) := by kernel_rfl
abbrev x137B0x0 (kn : Option Bool) (kt : Bool) (xsh : List (List C)) (r : List (List V)) (q : Bool) (n0 : Option Bool) (t0 : Bool) (x0 : List (List C)) (n1 : Option Bool) (t1 : Bool) (x1 : List (List C)) (n2 : Option Bool) (t2 : Bool) (x2 : List (List C)) (p : List UInt8) (c0 : Option Bool) (d0 : Bool) (z0 : List (List C)) (c1 : Option Bool) (d1 : Bool) (z1 : List (List C)) (c2 : Option Bool) (d2 : Bool) (z2 : List (List C)) (ys2 : List (List C)) : Ex × Fr × Hp := (Ex.exit 6, [(0, V.yl 1), (3, V.ptr 2 0 0 0), (6, V.ptr 3 0 0 0), (54, V.agg [V.c (C.sl 2 n0 t0 x0), V.c (C.sl 2 n1 t1 x1), V.c (C.sl 2 n2 t2 x2)]), (55, V.c (C.int IntKind.i64 0)), (56, V.c (C.bool false))], [O.box [V.c (C.sl 3 kn kt xsh)], O.yo r q, O.mem 1 0 ys2, O.box [V.c (C.str p), V.c (C.sl 5 c0 d0 z0), V.c (C.sl 5 c1 d1 z1), V.c (C.sl 5 c2 d2 z2)]])
theorem t137B0 (kn : Option Bool) (kt : Bool) (xsh : List (List C)) (r : List (List V)) (q : Bool) (n0 : Option Bool) (t0 : Bool) (x0 : List (List C)) (n1 : Option Bool) (t1 : Bool) (x1 : List (List C)) (n2 : Option Bool) (t2 : Bool) (x2 : List (List C)) (a0 : Option Bool) (b0 : Bool) (y0 : List (List C)) (a1 : Option Bool) (b1 : Bool) (y1 : List (List C)) (a2 : Option Bool) (b2 : Bool) (y2 : List (List C)) (p : List UInt8) (c0 : Option Bool) (d0 : Bool) (z0 : List (List C)) (c1 : Option Bool) (d1 : Bool) (z1 : List (List C)) (c2 : Option Bool) (d2 : Bool) (z2 : List (List C)) : p137.lts bB137 (sB137 kn kt xsh r q n0 t0 x0 n1 t1 x1 n2 t2 x2 a0 b0 y0 a1 b1 y1 a2 b2 y2 p c0 d0 z0 c1 d1 z1 c2 d2 z2 0) = (Tr.br true (Tr.br (decide (0 < (↑x0.length : Int))) (Tr.chk true (Tr.chk true (Tr.chk (decide (Int.toNat 0 < x0.length)) (Tr.chk (shOk [Sk.str, Sk.sl 5] (x0.getD (Int.toNat 0) [])) (Tr.br (((x0.getD (Int.toNat 0) []).headD C.pnil).st == p) (Tr.chk true (Tr.chk true (Tr.chk (decide (Int.toNat 0 < x0.length)) (Tr.chk (shOk [Sk.str, Sk.sl 5] (x0.getD (Int.toNat 0) [])) (Tr.chk true (Tr.chk (decide (Int.toNat 1 ≤ x0.length)) (Tr.chk (decide (x0.length ≤ x0.length)) (Tr.chk true (Tr.chk true (Tr.chk true (Tr.chk true (Tr.chk true (Tr.chk true (Tr.chk true (Tr.chk true (Tr.chk true (Tr.chk true (Tr.chk true (Tr.chk true (Tr.leaf (R.st Ex.nrm [(0, V.yl 1), (3, V.ptr 2 0 0 0), (6, V.ptr 3 0 0 0), (54, V.agg [V.c (C.sl 2 n0 t0 x0), V.c (C.sl 2 n1 t1 x1), V.c (C.sl 2 n2 t2 x2)]), (55, V.c (C.int IntKind.i64 1))] [O.box [V.c (C.sl 3 kn kt xsh)], O.yo r q, O.mem 1 0 [[C.sl 2 n0 (cutTight none (t0 && decide (x0.length = x0.length))) (List.drop (Int.toNat 1) (List.take x0.length x0))], [C.sl 2 a1 b1 y1], [C.sl 2 a2 b2 y2]], O.box [V.c (C.str p), V.c (C.sl 5 none false ((x0.getD (Int.toNat 0) []).tail.headD C.pnil).xs), V.c (C.sl 5 c1 d1 z1), V.c (C.sl 5 c2 d2 z2)]]))))))))))))))))))))) (Tr.leaf (R.st Ex.nrm [(0, V.yl 1), (3, V.ptr 2 0 0 0), (6, V.ptr 3 0 0 0), (54, V.agg [V.c (C.sl 2 n0 t0 x0), V.c (C.sl 2 n1 t1 x1), V.c (C.sl 2 n2 t2 x2)]), (55, V.c (C.int IntKind.i64 1))] [O.box [V.c (C.sl 3 kn kt xsh)], O.yo r q, O.mem 1 0 [[C.sl 2 a0 b0 y0], [C.sl 2 a1 b1 y1], [C.sl 2 a2 b2 y2]], O.box [V.c (C.str p), V.c (C.sl 5 c0 d0 z0), V.c (C.sl 5 c1 d1 z1), V.c (C.sl 5 c2 d2 z2)]]))))))) (Tr.leaf (R.st Ex.nrm [(0, V.yl 1), (3, V.ptr 2 0 0 0), (6, V.ptr 3 0 0 0), (54, V.agg [V.c (C.sl 2 n0 t0 x0), V.c (C.sl 2 n1 t1 x1), V.c (C.sl 2 n2 t2 x2)]), (55, V.c (C.int IntKind.i64 1))] [O.box [V.c (C.sl 3 kn kt xsh)], O.yo r q, O.mem 1 0 [[C.sl 2 a0 b0 y0], [C.sl 2 a1 b1 y1], [C.sl 2 a2 b2 y2]], O.box [V.c (C.str p), V.c (C.sl 5 c0 d0 z0), V.c (C.sl 5 c1 d1 z1), V.c (C.sl 5 c2 d2 z2)]]))) (Tr.leaf (R.x (x137B0x0 kn kt xsh r q n0 t0 x0 n1 t1 x1 n2 t2 x2 p c0 d0 z0 c1 d1 z1 c2 d2 z2 ([[C.sl 2 a0 b0 y0], [C.sl 2 a1 b1 y1], [C.sl 2 a2 b2 y2]]))))) := by kernel_rfl
abbrev x137B1x0 (kn : Option Bool) (kt : Bool) (xsh : List (List C)) (r : List (List V)) (q : Bool) (n0 : Option Bool) (t0 : Bool) (x0 : List (List C)) (n1 : Option Bool) (t1 : Bool) (x1 : List (List C)) (n2 : Option Bool) (t2 : Bool) (x2 : List (List C)) (p : List UInt8) (c0 : Option Bool) (d0 : Bool) (z0 : List (List C)) (c1 : Option Bool) (d1 : Bool) (z1 : List (List C)) (c2 : Option Bool) (d2 : Bool) (z2 : List (List C)) (ys2 : List (List C)) : Ex × Fr × Hp := (Ex.exit 6, [(0, V.yl 1), (3, V.ptr 2 0 0 0), (6, V.ptr 3 0 0 0), (54, V.agg [V.c (C.sl 2 n0 t0 x0), V.c (C.sl 2 n1 t1 x1), V.c (C.sl 2 n2 t2 x2)]), (55, V.c (C.int IntKind.i64 1)), (56, V.c (C.bool false))], [O.box [V.c (C.sl 3 kn kt xsh)], O.yo r q, O.mem 1 0 ys2, O.box [V.c (C.str p), V.c (C.sl 5 c0 d0 z0), V.c (C.sl 5 c1 d1 z1), V.c (C.sl 5 c2 d2 z2)]])
theorem t137B1 (kn : Option Bool) (kt : Bool) (xsh : List (List C)) (r : List (List V)) (q : Bool) (n0 : Option Bool) (t0 : Bool) (x0 : List (List C)) (n1 : Option Bool) (t1 : Bool) (x1 : List (List C)) (n2 : Option Bool) (t2 : Bool) (x2 : List (List C)) (a0 : Option Bool) (b0 : Bool) (y0 : List (List C)) (a1 : Option Bool) (b1 : Bool) (y1 : List (List C)) (a2 : Option Bool) (b2 : Bool) (y2 : List (List C)) (p : List UInt8) (c0 : Option Bool) (d0 : Bool) (z0 : List (List C)) (c1 : Option Bool) (d1 : Bool) (z1 : List (List C)) (c2 : Option Bool) (d2 : Bool) (z2 : List (List C)) : p137.lts bB137 (sB137 kn kt xsh r q n0 t0 x0 n1 t1 x1 n2 t2 x2 a0 b0 y0 a1 b1 y1 a2 b2 y2 p c0 d0 z0 c1 d1 z1 c2 d2 z2 1) = (Tr.br true (Tr.br (decide (0 < (↑x1.length : Int))) (Tr.chk true (Tr.chk true (Tr.chk (decide (Int.toNat 0 < x1.length)) (Tr.chk (shOk [Sk.str, Sk.sl 5] (x1.getD (Int.toNat 0) [])) (Tr.br (((x1.getD (Int.toNat 0) []).headD C.pnil).st == p) (Tr.chk true (Tr.chk true (Tr.chk (decide (Int.toNat 0 < x1.length)) (Tr.chk (shOk [Sk.str, Sk.sl 5] (x1.getD (Int.toNat 0) [])) (Tr.chk true (Tr.chk (decide (Int.toNat 1 ≤ x1.length)) (Tr.chk (decide (x1.length ≤ x1.length)) (Tr.chk true (Tr.chk true (Tr.chk true (Tr.chk true (Tr.chk true (Tr.chk true (Tr.chk true (Tr.chk true (Tr.chk true (Tr.chk true (Tr.chk true (Tr.chk true (Tr.leaf (R.st Ex.nrm [(0, V.yl 1), (3, V.ptr 2 0 0 0), (6, V.ptr 3 0 0 0), (54, V.agg [V.c (C.sl 2 n0 t0 x0), V.c (C.sl 2 n1 t1 x1), V.c (C.sl 2 n2 t2 x2)]), (55, V.c (C.int IntKind.i64 2))] [O.box [V.c (C.sl 3 kn kt xsh)], O.yo r q, O.mem 1 0 [[C.sl 2 a0 b0 y0], [C.sl 2 n1 (cutTight none (t1 && decide (x1.length = x1.length))) (List.drop (Int.toNat 1) (List.take x1.length x1))], [C.sl 2 a2 b2 y2]], O.box [V.c (C.str p), V.c (C.sl 5 c0 d0 z0), V.c (C.sl 5 none false ((x1.getD (Int.toNat 0) []).tail.headD C.pnil).xs), V.c (C.sl 5 c2 d2 z2)]]))))))))))))))))))))) (Tr.leaf (R.st Ex.nrm [(0, V.yl 1), (3, V.ptr 2 0 0 0), (6, V.ptr 3 0 0 0), (54, V.agg [V.c (C.sl 2 n0 t0 x0), V.c (C.sl 2 n1 t1 x1), V.c (C.sl 2 n2 t2 x2)]), (55, V.c (C.int IntKind.i64 2))] [O.box [V.c (C.sl 3 kn kt xsh)], O.yo r q, O.mem 1 0 [[C.sl 2 a0 b0 y0], [C.sl 2 a1 b1 y1], [C.sl 2 a2 b2 y2]], O.box [V.c (C.str p), V.c (C.sl 5 c0 d0 z0), V.c (C.sl 5 c1 d1 z1), V.c (C.sl 5 c2 d2 z2)]]))))))) (Tr.leaf (R.st Ex.nrm [(0, V.yl 1), (3, V.ptr 2 0 0 0), (6, V.ptr 3 0 0 0), (54, V.agg [V.c (C.sl 2 n0 t0 x0), V.c (C.sl 2 n1 t1 x1), V.c (C.sl 2 n2 t2 x2)]), (55, V.c (C.int IntKind.i64 2))] [O.box [V.c (C.sl 3 kn kt xsh)], O.yo r q, O.mem 1 0 [[C.sl 2 a0 b0 y0], [C.sl 2 a1 b1 y1], [C.sl 2 a2 b2 y2]], O.box [V.c (C.str p), V.c (C.sl 5 c0 d0 z0), V.c (C.sl 5 c1 d1 z1), V.c (C.sl 5 c2 d2 z2)]]))) (Tr.leaf (R.x (x137B1x0 kn kt xsh r q n0 t0 x0 n1 t1 x1 n2 t2 x2 p c0 d0 z0 c1 d1 z1 c2 d2 z2 ([[C.sl 2 a0 b0 y0], [C.sl 2 a1 b1 y1], [C.sl 2 a2 b2 y2]]))))) := by kernel_rfl
abbrev x137B2x0 (kn : Option Bool) (kt : Bool) (xsh : List (List C)) (r : List (List V)) (q : Bool) (n0 : Option Bool) (t0 : Bool) (x0 : List (List C)) (n1 : Option Bool) (t1 : Bool) (x1 : List (List C)) (n2 : Option Bool) (t2 : Bool) (x2 : List (List C)) (p : List UInt8) (c0 : Option Bool) (d0 : Bool) (z0 : List (List C)) (c1 : Option Bool) (d1 : Bool) (z1 : List (List C)) (c2 : Option Bool) (d2 : Bool) (z2 : List (List C)) (ys2 : List (List C)) : Ex × Fr × Hp := (Ex.exit 6, [(0, V.yl 1), (3, V.ptr 2 0 0 0), (6, V.ptr 3 0 0 0), (54, V.agg [V.c (C.sl 2 n0 t0 x0), V.c (C.sl 2 n1 t1 x1), V.c (C.sl 2 n2 t2 x2)]), (55, V.c (C.int IntKind.i64 2)), (56, V.c (C.bool false))], [O.box [V.c (C.sl 3 kn kt xsh)], O.yo r q, O.mem 1 0 ys2, O.box [V.c (C.str p), V.c (C.sl 5 c0 d0 z0), V.c (C.sl 5 c1 d1 z1), V.c (C.sl 5 c2 d2 z2)]])
theorem t137B2 (kn : Option Bool) (kt : Bool) (xsh : List (List C)) (r : List (List V)) (q : Bool) (n0 : Option Bool) (t0 : Bool) (x0 : List (List C)) (n1 : Option Bool) (t1 : Bool) (x1 : List (List C)) (n2 : Option Bool) (t2 : Bool) (x2 : List (List C)) (a0 : Option Bool) (b0 : Bool) (y0 : List (List C)) (a1 : Option Bool) (b1 : Bool) (y1 : List (List C)) (a2 : Option Bool) (b2 : Bool) (y2 : List (List C)) (p : List UInt8) (c0 : Option Bool) (d0 : Bool) (z0 : List (List C)) (c1 : Option Bool) (d1 : Bool) (z1 : List (List C)) (c2 : Option Bool) (d2 : Bool) (z2 : List (List C)) : p137.lts bB137 (sB137 kn kt xsh r q n0 t0 x0 n1 t1 x1 n2 t2 x2 a0 b0 y0 a1 b1 y1 a2 b2 y2 p c0 d0 z0 c1 d1 z1 c2 d2 z2 2) = (Tr.br true (Tr.br (decide (0 < (↑x2.length : Int))) (Tr.chk true (Tr.chk true (Tr.chk (decide (Int.toNat 0 < x2.length)) (Tr.chk (shOk [Sk.str, Sk.sl 5] (x2.getD (Int.toNat 0) [])) (Tr.br (((x2.getD (Int.toNat 0) []).headD C.pnil).st == p) (Tr.chk true (Tr.chk true (Tr.chk (decide (Int.toNat 0 < x2.length)) (Tr.chk (shOk [Sk.str, Sk.sl 5] (x2.getD (Int.toNat 0) [])) (Tr.chk true (Tr.chk (decide (Int.toNat 1 ≤ x2.length)) (Tr.chk (decide (x2.length ≤ x2.length)) (Tr.chk true (Tr.chk true (Tr.chk true (Tr.chk true (Tr.chk true (Tr.chk true (Tr.chk true (Tr.chk true (Tr.chk true (Tr.chk true (Tr.chk true (Tr.chk true (Tr.leaf (R.st Ex.nrm [(0, V.yl 1), (3, V.ptr 2 0 0 0), (6, V.ptr 3 0 0 0), (54, V.agg [V.c (C.sl 2 n0 t0 x0), V.c (C.sl 2 n1 t1 x1), V.c (C.sl 2 n2 t2 x2)]), (55, V.c (C.int IntKind.i64 3))] [O.box [V.c (C.sl 3 kn kt xsh)], O.yo r q, O.mem 1 0 [[C.sl 2 a0 b0 y0], [C.sl 2 a1 b1 y1], [C.sl 2 n2 (cutTight none (t2 && decide (x2.length = x2.length))) (List.drop (Int.toNat 1) (List.take x2.length x2))]], O.box [V.c (C.str p), V.c (C.sl 5 c0 d0 z0), V.c (C.sl 5 c1 d1 z1), V.c (C.sl 5 none false ((x2.getD (Int.toNat 0) []).tail.headD C.pnil).xs)]]))))))))))))))))))))) (Tr.leaf (R.st Ex.nrm [(0, V.yl 1), (3, V.ptr 2 0 0 0), (6, V.ptr 3 0 0 0), (54, V.agg [V.c (C.sl 2 n0 t0 x0), V.c (C.sl 2 n1 t1 x1), V.c (C.sl 2 n2 t2 x2)]), (55, V.c (C.int IntKind.i64 3))] [O.box [V.c (C.sl 3 kn kt xsh)], O.yo r q, O.mem 1 0 [[C.sl 2 a0 b0 y0], [C.sl 2 a1 b1 y1], [C.sl 2 a2 b2 y2]], O.box [V.c (C.str p), V.c (C.sl 5 c0 d0 z0), V.c (C.sl 5 c1 d1 z1), V.c (C.sl 5 c2 d2 z2)]]))))))) (Tr.leaf (R.st Ex.nrm [(0, V.yl 1), (3, V.ptr 2 0 0 0), (6, V.ptr 3 0 0 0), (54, V.agg [V.c (C.sl 2 n0 t0 x0), V.c (C.sl 2 n1 t1 x1), V.c (C.sl 2 n2 t2 x2)]), (55, V.c (C.int IntKind.i64 3))] [O.box [V.c (C.sl 3 kn kt xsh)], O.yo r q, O.mem 1 0 [[C.sl 2 a0 b0 y0], [C.sl 2 a1 b1 y1], [C.sl 2 a2 b2 y2]], O.box [V.c (C.str p), V.c (C.sl 5 c0 d0 z0), V.c (C.sl 5 c1 d1 z1), V.c (C.sl 5 c2 d2 z2)]]))) (Tr.leaf (R.x (x137B2x0 kn kt xsh r q n0 t0 x0 n1 t1 x1 n2 t2 x2 p c0 d0 z0 c1 d1 z1 c2 d2 z2 ([[C.sl 2 a0 b0 y0], [C.sl 2 a1 b1 y1], [C.sl 2 a2 b2 y2]]))))) := by kernel_rfl
abbrev x137B3x0 (kn : Option Bool) (kt : Bool) (xsh : List (List C)) (r : List (List V)) (q : Bool) (n0 : Option Bool) (t0 : Bool) (x0 : List (List C)) (n1 : Option Bool) (t1 : Bool) (x1 : List (List C)) (n2 : Option Bool) (t2 : Bool) (x2 : List (List C)) (p : List UInt8) (c0 : Option Bool) (d0 : Bool) (z0 : List (List C)) (c1 : Option Bool) (d1 : Bool) (z1 : List (List C)) (c2 : Option Bool) (d2 : Bool) (z2 : List (List C)) (ys2 : List (List C)) : Ex × Fr × Hp := (Ex.exit 6, [(0, V.yl 1), (3, V.ptr 2 0 0 0), (6, V.ptr 3 0 0 0), (54, V.agg [V.c (C.sl 2 n0 t0 x0), V.c (C.sl 2 n1 t1 x1), V.c (C.sl 2 n2 t2 x2)]), (55, V.c (C.int IntKind.i64 3)), (56, V.c (C.bool false))], [O.box [V.c (C.sl 3 kn kt xsh)], O.yo r q, O.mem 1 0 ys2, O.box [V.c (C.str p), V.c (C.sl 5 c0 d0 z0), V.c (C.sl 5 c1 d1 z1), V.c (C.sl 5 c2 d2 z2)]])
theorem t137B3 (kn : Option Bool) (kt : Bool) (xsh : List (List C)) (r : List (List V)) (q : Bool) (n0 : Option Bool) (t0 : Bool) (x0 : List (List C)) (n1 : Option Bool) (t1 : Bool) (x1 : List (List C)) (n2 : Option Bool) (t2 : Bool) (x2 : List (List C)) (a0 : Option Bool) (b0 : Bool) (y0 : List (List C)) (a1 : Option Bool) (b1 : Bool) (y1 : List (List C)) (a2 : Option Bool) (b2 : Bool) (y2 : List (List C)) (p : List UInt8) (c0 : Option Bool) (d0 : Bool) (z0 : List (List C)) (c1 : Option Bool) (d1 : Bool) (z1 : List (List C)) (c2 : Option Bool) (d2 : Bool) (z2 : List (List C)) : p137.lts bB137 (sB137 kn kt xsh r q n0 t0 x0 n1 t1 x1 n2 t2 x2 a0 b0 y0 a1 b1 y1 a2 b2 y2 p c0 d0 z0 c1 d1 z1 c2 d2 z2 3) = (Tr.br false Tr.fail (Tr.leaf (R.x (x137B3x0 kn kt xsh r q n0 t0 x0 n1 t1 x1 n2 t2 x2 p c0 d0 z0 c1 d1 z1 c2 d2 z2 ([[C.sl 2 a0 b0 y0], [C.sl 2 a1 b1 y1], [C.sl 2 a2 b2 y2]]))))) := by kernel_rfl
abbrev x137wx0 (kn : Option Bool) (kt : Bool) (xsh : List (List C)) (r : List (List V)) (q : Bool) (p : List UInt8) (c0 : Option Bool) (d0 : Bool) (z0 : List (List C)) (c1 : Option Bool) (d1 : Bool) (z1 : List (List C)) (c2 : Option Bool) (d2 : Bool) (z2 : List (List C)) (ys2 : List (List C)) : Ex × Fr × Hp := (Ex.ret, [(0, V.yl 1), (3, V.ptr 2 0 0 0), (86, V.c (C.bool true))], [O.box [V.c (C.sl 3 kn kt xsh)], O.yo r.tail q, O.mem 1 0 ys2, O.box [V.c (C.str p), V.c (C.sl 5 c0 d0 z0), V.c (C.sl 5 c1 d1 z1), V.c (C.sl 5 c2 d2 z2)]])
theorem t137w (kn : Option Bool) (kt : Bool) (xsh : List (List C)) (r : List (List V)) (q : Bool) (n0 : Option Bool) (t0 : Bool) (x0 : List (List C)) (n1 : Option Bool) (t1 : Bool) (x1 : List (List C)) (n2 : Option Bool) (t2 : Bool) (x2 : List (List C)) (a0 : Option Bool) (b0 : Bool) (y0 : List (List C)) (a1 : Option Bool) (b1 : Bool) (y1 : List (List C)) (a2 : Option Bool) (b2 : Bool) (y2 : List (List C)) (p : List UInt8) (c0 : Option Bool) (d0 : Bool) (z0 : List (List C)) (c1 : Option Bool) (d1 : Bool) (z1 : List (List C)) (c2 : Option Bool) (d2 : Bool) (z2 : List (List C)) : p137.lkx bU137 1 (xB137 kn kt xsh r q n0 t0 x0 n1 t1 x1 n2 t2 x2 a0 b0 y0 a1 b1 y1 a2 b2 y2 p c0 d0 z0 c1 d1 z1 c2 d2 z2) = (Tr.chk (yoHd r [V.agg [V.c (C.str p), V.c (C.sl 5 c0 d0 z0), V.c (C.sl 5 c1 d1 z1), V.c (C.sl 5 c2 d2 z2)]]) (Tr.br (!yoAns r q) (Tr.leaf (R.x (x137wx0 kn kt xsh r q p c0 d0 z0 c1 d1 z1 c2 d2 z2 ([[C.sl 2 a0 b0 y0], [C.sl 2 a1 b1 y1], [C.sl 2 a2 b2 y2]])))) (Tr.leaf (R.st Ex.nrm [(0, V.yl 1), (3, V.ptr 2 0 0 0)] [O.box [V.c (C.sl 3 kn kt xsh)], O.yo r.tail q, O.mem 1 0 [[C.sl 2 a0 b0 y0], [C.sl 2 a1 b1 y1], [C.sl 2 a2 b2 y2]]])))) := by kernel_rfl
theorem k137e (kn : Option Bool) (kt : Bool) (xsh : List (List C)) (r : List (List V)) (q : Bool) (n0 : Option Bool) (t0 : Bool) (x0 : List (List C)) (n1 : Option Bool) (t1 : Bool) (x1 : List (List C)) (n2 : Option Bool) (t2 : Bool) (x2 : List (List C)) (p : List UInt8) : p137.fkx 1 (xE137 kn kt xsh r q n0 t0 x0 n1 t1 x1 n2 t2 x2 p) = Tr.leaf (R.out [] [O.box [V.c (C.sl 3 kn kt xsh)], O.yo r q]) := by kernel_rfl
end Go.Proofs.YtgaabjmbnomimaaDoor
namespace Go.Proofs.YtgaabjmbnomimaaDoor
open Go Go.Ev
def rcN : List Row → Option Bool | [] => some true | _ :: _ => none
def rcT : List Row → Bool | [] => true | _ :: _ => false
theorem rowsV_eq (rs : List Row) : rowsV rs = .c (.sl 5 (rcN rs) (rcT rs) (rows rs)) := by cases rs <;> rfl
abbrev pk {α : Type} (j k : Nat) (a b : α) : α := if j < k then a else b
section
variable (kn : Option Bool) (kt : Bool) (xsh : List (List C)) (r : List (List V)) (q : Bool) (n0 : Option Bool) (t0 : Bool) (x : List Ent) (n1 : Option Bool) (t1 : Bool) (y : List Ent) (n2 : Option Bool) (t2 : Bool) (z : List Ent)
theorem stepA0 (p : List UInt8) : p137.ld bA137 (p137.lts bA137 (sA137 kn kt xsh r q n0 t0 (ents x) n1 t1 (ents y) n2 t2 (ents z) p 0)) = some (R.s (sA137 kn kt xsh r q n0 t0 (ents x) n1 t1 (ents y) n2 t2 (ents z) (leastP p x) 1)) := by
  rw [t137A0]
  cases x with
  | nil => rfl
  | cons e l =>
    have h1 : (0 : Int) < ((ents (e :: l)).length : Nat) := by rw [ents_length, List.length_cons]; omega
    have h2 : Int.toNat 0 < (ents (e :: l)).length := by rw [ents_length, List.length_cons]; exact Nat.succ_pos _
    have h3 : (ents (e :: l)).getD (Int.toNat 0) [] = ee e := rfl
    cases p with
    | nil => simp only [ld_br, ld_chk', ld_leaf, h1, h2, h3, ee_ok, ee_p, decide_true, if_true, beq_self_eq_true]; rfl
    | cons b s =>
      have h4 : (b :: s == []) = false := rfl
      simp only [ld_br, ld_chk', ld_leaf, h1, h2, h3, h4, ee_ok, ee_p, decide_true, if_true, Bool.false_eq_true, if_false, leastP]
      cases Op.bytesLess e.1 (b :: s) <;> rfl
theorem stepA1 (p : List UInt8) : p137.ld bA137 (p137.lts bA137 (sA137 kn kt xsh r q n0 t0 (ents x) n1 t1 (ents y) n2 t2 (ents z) p 1)) = some (R.s (sA137 kn kt xsh r q n0 t0 (ents x) n1 t1 (ents y) n2 t2 (ents z) (leastP p y) 2)) := by
  rw [t137A1]
  cases y with
  | nil => rfl
  | cons e l =>
    have h1 : (0 : Int) < ((ents (e :: l)).length : Nat) := by rw [ents_length, List.length_cons]; omega
    have h2 : Int.toNat 0 < (ents (e :: l)).length := by rw [ents_length, List.length_cons]; exact Nat.succ_pos _
    have h3 : (ents (e :: l)).getD (Int.toNat 0) [] = ee e := rfl
    cases p with
    | nil => simp only [ld_br, ld_chk', ld_leaf, h1, h2, h3, ee_ok, ee_p, decide_true, if_true, beq_self_eq_true]; rfl
    | cons b s =>
      have h4 : (b :: s == []) = false := rfl
      simp only [ld_br, ld_chk', ld_leaf, h1, h2, h3, h4, ee_ok, ee_p, decide_true, if_true, Bool.false_eq_true, if_false, leastP]
      cases Op.bytesLess e.1 (b :: s) <;> rfl
theorem stepA2 (p : List UInt8) : p137.ld bA137 (p137.lts bA137 (sA137 kn kt xsh r q n0 t0 (ents x) n1 t1 (ents y) n2 t2 (ents z) p 2)) = some (R.s (sA137 kn kt xsh r q n0 t0 (ents x) n1 t1 (ents y) n2 t2 (ents z) (leastP p z) 3)) := by
  rw [t137A2]
  cases z with
  | nil => rfl
  | cons e l =>
    have h1 : (0 : Int) < ((ents (e :: l)).length : Nat) := by rw [ents_length, List.length_cons]; omega
    have h2 : Int.toNat 0 < (ents (e :: l)).length := by rw [ents_length, List.length_cons]; exact Nat.succ_pos _
    have h3 : (ents (e :: l)).getD (Int.toNat 0) [] = ee e := rfl
    cases p with
    | nil => simp only [ld_br, ld_chk', ld_leaf, h1, h2, h3, ee_ok, ee_p, decide_true, if_true, beq_self_eq_true]; rfl
    | cons b s =>
      have h4 : (b :: s == []) = false := rfl
      simp only [ld_br, ld_chk', ld_leaf, h1, h2, h3, h4, ee_ok, ee_p, decide_true, if_true, Bool.false_eq_true, if_false, leastP]
      cases Op.bytesLess e.1 (b :: s) <;> rfl
theorem hct137 : (ctOf [(34, s34)]).ok E := ctOf_cons s34_ok ctOf_nil
def least3 (x y z : List Ent) : List UInt8 := leastP (leastP (leastP [] x) y) z
theorem loopA : ∃ xx, xx = xA137 kn kt xsh r q n0 t0 (ents x) n1 t1 (ents y) n2 t2 (ents z) (least3 x y z) ∧ p137.Loops bA137 (sA137 kn kt xsh r q n0 t0 (ents x) n1 t1 (ents y) n2 t2 (ents z) [] 0) xx := by
  refine list_post (p := p137) hct137 (b := bA137) 3 (fun k (p : List UInt8) => sA137 kn kt xsh r q n0 t0 (ents x) n1 t1 (ents y) n2 t2 (ents z) p k)
    (fun k p => p = match k with | 0 => [] | 1 => leastP [] x | 2 => leastP (leastP [] x) y | _ => least3 x y z) (fun xx => xx = xA137 kn kt xsh r q n0 t0 (ents x) n1 t1 (ents y) n2 t2 (ents z) (least3 x y z)) ?_ ?_ 0 (Nat.zero_le _) [] rfl
  · intro k p hk hp
    match k, hk, hp with
    | 0, _, hp => subst hp; exact .inl ⟨_, rfl, stepA0 kn kt xsh r q n0 t0 x n1 t1 y n2 t2 z []⟩
    | 1, _, hp => subst hp; exact .inl ⟨_, rfl, stepA1 kn kt xsh r q n0 t0 x n1 t1 y n2 t2 z _⟩
    | 2, _, hp => subst hp; exact .inl ⟨_, rfl, stepA2 kn kt xsh r q n0 t0 x n1 t1 y n2 t2 z _⟩
  · intro p hp
    subst hp
    refine ⟨_, ?_, rfl, ?_⟩
    · simp
    · show p137.ld bA137 (p137.lts bA137 (sA137 kn kt xsh r q n0 t0 (ents x) n1 t1 (ents y) n2 t2 (ents z) (least3 x y z) 3)) = _
      rw [t137A3]; rfl
/-- The entries that a path has, of three lists. -/
abbrev sBk (p : List UInt8) (k : Nat) : Fr × Hp := sB137 kn kt xsh r q n0 t0 (ents x) n1 t1 (ents y) n2 t2 (ents z) n0 t0 (ents (pk 0 k (tailP p x) x)) n1 t1 (ents (pk 1 k (tailP p y) y)) n2 t2 (ents (pk 2 k (tailP p z) z))
  p (rcN (pk 0 k (headP p x) [])) (rcT (pk 0 k (headP p x) [])) (rows (pk 0 k (headP p x) [])) (rcN (pk 1 k (headP p y) [])) (rcT (pk 1 k (headP p y) [])) (rows (pk 1 k (headP p y) [])) (rcN (pk 2 k (headP p z) [])) (rcT (pk 2 k (headP p z) [])) (rows (pk 2 k (headP p z) [])) k
theorem rc_ne {l : List Row} (h : l ≠ []) : rcN l = none ∧ rcT l = false := by cases l with | nil => exact absurd rfl h | cons a r => exact ⟨rfl, rfl⟩
theorem loopB (p : List UInt8) (hx : ∀ e ∈ x, e.2 ≠ []) (hy : ∀ e ∈ y, e.2 ≠ []) (hz : ∀ e ∈ z, e.2 ≠ []) : ∃ xx, xx = xB137 kn kt xsh r q n0 t0 (ents x) n1 t1 (ents y) n2 t2 (ents z) n0 t0 (ents (tailP p x)) n1 t1 (ents (tailP p y)) n2 t2 (ents (tailP p z))
    p (rcN (headP p x)) (rcT (headP p x)) (rows (headP p x)) (rcN (headP p y)) (rcT (headP p y)) (rows (headP p y)) (rcN (headP p z)) (rcT (headP p z)) (rows (headP p z)) ∧ p137.Loops bB137 (sBk kn kt xsh r q n0 t0 x n1 t1 y n2 t2 z p 0) xx := by
  refine list_post (p := p137) hct137 (b := bB137) 3 (fun k (_ : Unit) => sBk kn kt xsh r q n0 t0 x n1 t1 y n2 t2 z p k) (fun _ _ => True) (fun xx => xx = _) ?_ ?_ 0 (Nat.zero_le _) () trivial
  · intro k _ hk _
    have hd : ∀ n : Nat, decide (n = n) = true := fun n => by simp
    have hle : ∀ n : Nat, decide (n ≤ n) = true := fun n => by simp
    match k, hk with
    | 0, _ =>
      refine .inl ⟨(), trivial, ?_⟩
      show p137.ld bB137 (p137.lts bB137 (sB137 kn kt xsh r q n0 t0 (ents x) n1 t1 (ents y) n2 t2 (ents z) n0 t0 (ents x) n1 t1 (ents y) n2 t2 (ents z) p (rcN []) (rcT []) (rows []) (rcN []) (rcT []) (rows []) (rcN []) (rcT []) (rows []) 0)) = _
      rw [t137B0]
      cases x with
      | nil => rfl
      | cons e l =>
        have h1 : (0 : Int) < ((ents (e :: l)).length : Nat) := by rw [ents_length, List.length_cons]; omega
        have h2 : Int.toNat 0 < (ents (e :: l)).length := by rw [ents_length, List.length_cons]; exact Nat.succ_pos _
        have h3 : (ents (e :: l)).getD (Int.toNat 0) [] = ee e := rfl
        have h5 : Int.toNat 1 ≤ (ents (e :: l)).length := h2
        obtain ⟨r1, r2⟩ := rc_ne (hx e (by simp))
        simp only [ld_br, ld_chk', ld_leaf, h1, h2, h3, h5, ee_ok, ee_p, ee_r, decide_true, if_true, hd, hle, List.take_length, cutTight, Bool.and_true]
        cases c : e.1 == p with
        | false => simp only [Bool.false_eq_true, if_false, sBk, pk, Nat.zero_add, Nat.reduceAdd, Nat.reduceLT, Nat.reduceLeDiff, Nat.reduceEqDiff, Nat.lt_irrefl, reduceIte, headP, tailP, c, cond_false]; rfl
        | true => simp only [if_true, sBk, pk, Nat.zero_add, Nat.reduceAdd, Nat.reduceLT, Nat.reduceLeDiff, Nat.reduceEqDiff, Nat.lt_irrefl, reduceIte, headP, tailP, c, cond_true, r1, r2]; rfl
    | 1, _ =>
      refine .inl ⟨(), trivial, ?_⟩
      show p137.ld bB137 (p137.lts bB137 (sB137 kn kt xsh r q n0 t0 (ents x) n1 t1 (ents y) n2 t2 (ents z) n0 t0 (ents (tailP p x)) n1 t1 (ents y) n2 t2 (ents z) p (rcN (headP p x)) (rcT (headP p x)) (rows (headP p x)) (rcN []) (rcT []) (rows []) (rcN []) (rcT []) (rows []) 1)) = _
      rw [t137B1]
      cases y with
      | nil => rfl
      | cons e l =>
        have h1 : (0 : Int) < ((ents (e :: l)).length : Nat) := by rw [ents_length, List.length_cons]; omega
        have h2 : Int.toNat 0 < (ents (e :: l)).length := by rw [ents_length, List.length_cons]; exact Nat.succ_pos _
        have h3 : (ents (e :: l)).getD (Int.toNat 0) [] = ee e := rfl
        have h5 : Int.toNat 1 ≤ (ents (e :: l)).length := h2
        obtain ⟨r1, r2⟩ := rc_ne (hy e (by simp))
        simp only [ld_br, ld_chk', ld_leaf, h1, h2, h3, h5, ee_ok, ee_p, ee_r, decide_true, if_true, hd, hle, List.take_length, cutTight, Bool.and_true]
        cases c : e.1 == p with
        | false => simp only [Bool.false_eq_true, if_false, sBk, pk, Nat.zero_add, Nat.reduceAdd, Nat.reduceLT, Nat.reduceLeDiff, Nat.reduceEqDiff, Nat.lt_irrefl, reduceIte, headP, tailP, c, cond_false]; rfl
        | true => simp only [if_true, sBk, pk, Nat.zero_add, Nat.reduceAdd, Nat.reduceLT, Nat.reduceLeDiff, Nat.reduceEqDiff, Nat.lt_irrefl, reduceIte, headP, tailP, c, cond_true, r1, r2]; rfl
    | 2, _ =>
      refine .inl ⟨(), trivial, ?_⟩
      show p137.ld bB137 (p137.lts bB137 (sB137 kn kt xsh r q n0 t0 (ents x) n1 t1 (ents y) n2 t2 (ents z) n0 t0 (ents (tailP p x)) n1 t1 (ents (tailP p y)) n2 t2 (ents z) p (rcN (headP p x)) (rcT (headP p x)) (rows (headP p x)) (rcN (headP p y)) (rcT (headP p y)) (rows (headP p y)) (rcN []) (rcT []) (rows []) 2)) = _
      rw [t137B2]
      cases z with
      | nil => rfl
      | cons e l =>
        have h1 : (0 : Int) < ((ents (e :: l)).length : Nat) := by rw [ents_length, List.length_cons]; omega
        have h2 : Int.toNat 0 < (ents (e :: l)).length := by rw [ents_length, List.length_cons]; exact Nat.succ_pos _
        have h3 : (ents (e :: l)).getD (Int.toNat 0) [] = ee e := rfl
        have h5 : Int.toNat 1 ≤ (ents (e :: l)).length := h2
        obtain ⟨r1, r2⟩ := rc_ne (hz e (by simp))
        simp only [ld_br, ld_chk', ld_leaf, h1, h2, h3, h5, ee_ok, ee_p, ee_r, decide_true, if_true, hd, hle, List.take_length, cutTight, Bool.and_true]
        cases c : e.1 == p with
        | false => simp only [Bool.false_eq_true, if_false, sBk, pk, Nat.zero_add, Nat.reduceAdd, Nat.reduceLT, Nat.reduceLeDiff, Nat.reduceEqDiff, Nat.lt_irrefl, reduceIte, headP, tailP, c, cond_false]; rfl
        | true => simp only [if_true, sBk, pk, Nat.zero_add, Nat.reduceAdd, Nat.reduceLT, Nat.reduceLeDiff, Nat.reduceEqDiff, Nat.lt_irrefl, reduceIte, headP, tailP, c, cond_true, r1, r2]; rfl
  · intro _ _
    refine ⟨_, ?_, rfl, ?_⟩
    · simp
    · show p137.ld bB137 (p137.lts bB137 (sB137 kn kt xsh r q n0 t0 (ents x) n1 t1 (ents y) n2 t2 (ents z) n0 t0 (ents (tailP p x)) n1 t1 (ents (tailP p y)) n2 t2 (ents (tailP p z)) p (rcN (headP p x)) (rcT (headP p x)) (rows (headP p x)) (rcN (headP p y)) (rcT (headP p y)) (rows (headP p y)) (rcN (headP p z)) (rcT (headP p z)) (rows (headP p z)) 3)) = _
      rw [t137B3]; rfl
end
end Go.Proofs.YtgaabjmbnomimaaDoor
namespace Go.Proofs.YtgaabjmbnomimaaDoor
open Go Go.Ev
theorem bl_ge {e p q : List UInt8} (h : Op.bytesLess e p = false) (k : Op.bytesLess p q = false) : Op.bytesLess e q = false := by
  cases c : Op.bytesLess e q with
  | false => rfl
  | true =>
    cases d : Op.bytesLess q p with
    | true => rw [bl_trans c d] at h; cases h
    | false => rw [bl_total _ _ k d, c] at h; cases h
theorem bl_gt {p q : List UInt8} (h : Op.bytesLess q p = false) (k : q ≠ p) : Op.bytesLess p q = true := by
  cases c : Op.bytesLess p q with
  | true => rfl
  | false => exact absurd (bl_total _ _ h c) k
theorem look_in {l : List Ent} {e : Ent} (h : Rise l) (he : e ∈ l) : look l e.1 = e.2 := by
  induction l with
  | nil => cases he
  | cons a l ih =>
    rw [Rise, List.pairwise_cons] at h
    rw [look]
    rcases List.mem_cons.1 he with rfl | he
    · rw [if_pos rfl]
    · rw [if_neg (bl_ne (h.1 e he)), ih h.2 he]
theorem look_ex {l : List Ent} {q : List UInt8} (h : look l q ≠ []) : ∃ e ∈ l, e.1 = q := by
  induction l with
  | nil => exact absurd rfl h
  | cons a l ih =>
    rw [look] at h
    split at h
    · rename_i c; exact ⟨a, by simp, c⟩
    · obtain ⟨e, h1, h2⟩ := ih h; exact ⟨e, by simp [h1], h2⟩
/-- Two rising lists in which each path has the same are the same. -/
theorem rise_ext : ∀ {x y : List Ent}, Rise x → Rise y → (∀ e ∈ x, e.2 ≠ []) → (∀ e ∈ y, e.2 ≠ []) → (∀ q, look x q = look y q) → x = y
  | [], [], _, _, _, _, _ => rfl
  | [], e :: l, _, hy, _, ny, h => by
    have := h e.1
    rw [look_in hy (by simp)] at this
    exact absurd this.symm (ny e (by simp))
  | e :: l, [], hx, _, nx, _, h => by
    have := h e.1
    rw [look_in hx (by simp)] at this
    exact absurd this (nx e (by simp))
  | e :: l, d :: m, hx, hy, nx, ny, h => by
    have hx' := hx; have hy' := hy
    rw [Rise, List.pairwise_cons] at hx' hy'
    have key : ∀ {e d : Ent} {l m : List Ent}, Rise (e :: l) → (∀ a ∈ m, Op.bytesLess d.1 a.1 = true) → e.2 ≠ [] → look (e :: l) e.1 = look (d :: m) e.1 → Op.bytesLess e.1 d.1 = false := fun {e d l m} hx hm ne hh => by
      rw [look_in hx (by simp)] at hh
      obtain ⟨a, ha, hae⟩ := look_ex (l := d :: m) (q := e.1) (by rw [← hh]; exact ne)
      rw [← hae]
      rcases List.mem_cons.1 ha with rfl | ha
      · exact bl_irrefl _
      · exact bl_asymm (hm a ha)
    have e1 : e.1 = d.1 := bl_total _ _ (key hx hy'.1 (nx e (by simp)) (h e.1)) (key hy hx'.1 (ny d (by simp)) (h d.1).symm)
    have e2 : e.2 = d.2 := by
      have := h e.1
      rw [look_in hx (by simp), e1, look_in hy (by simp)] at this; exact this
    have ed : e = d := Prod.ext e1 e2
    subst ed
    have hl : l = m := by
      refine rise_ext hx'.2 hy'.2 (fun a ha => nx a (by simp [ha])) (fun a ha => ny a (by simp [ha])) fun q => ?_
      by_cases c : e.1 = q
      · rw [look_none fun a ha k => bl_ne (hx'.1 a ha) (by rw [k, c]), look_none fun a ha k => bl_ne (hy'.1 a ha) (by rw [k, c])]
      · have := h q
        rw [look, look, if_neg c, if_neg c] at this; exact this
    rw [hl]
abbrev Pne (x : List Ent) : Prop := ∀ e ∈ x, e.1 ≠ []
abbrev Rne (x : List Ent) : Prop := ∀ e ∈ x, e.2 ≠ []
/-- No path is below. -/
abbrev Lo (p : List UInt8) (x : List Ent) : Prop := ∀ e ∈ x, Op.bytesLess e.1 p = false
theorem Lo.mono {p q : List UInt8} {x : List Ent} (h : Lo p x) (k : Op.bytesLess p q = false) : Lo q x := fun e he => bl_ge (h e he) k
theorem leastP_spec (p : List UInt8) {x : List Ent} (hx : Rise x) (nx : Pne x) :
    (leastP p x = [] ↔ p = [] ∧ x = []) ∧ Lo (leastP p x) x ∧ (p ≠ [] → Op.bytesLess p (leastP p x) = false) ∧ (leastP p x = p ∨ ∃ e ∈ x, leastP p x = e.1) := by
  cases x with
  | nil => exact ⟨by simp [leastP], by simp, fun _ => bl_irrefl _, .inl rfl⟩
  | cons e l =>
    have hne := nx e (by simp)
    have hlo : Lo e.1 (e :: l) := fun a ha => by
      rcases List.mem_cons.1 ha with rfl | ha
      · exact bl_irrefl _
      · rw [Rise, List.pairwise_cons] at hx; exact bl_asymm (hx.1 a ha)
    cases p with
    | nil => exact ⟨by simp [leastP, hne], hlo, fun h => absurd rfl h, .inr ⟨e, by simp, rfl⟩⟩
    | cons b q =>
      simp only [leastP]
      cases c : Op.bytesLess e.1 (b :: q) with
      | true => exact ⟨by simp [hne], hlo, fun _ => bl_asymm c, .inr ⟨e, by simp, rfl⟩⟩
      | false => exact ⟨by simp, hlo.mono c, fun _ => bl_irrefl _, .inl rfl⟩
theorem least3_spec {x y z : List Ent} (hx : Rise x) (hy : Rise y) (hz : Rise z) (nx : Pne x) (ny : Pne y) (nz : Pne z) :
    (leastP (leastP (leastP [] x) y) z = [] ↔ x = [] ∧ y = [] ∧ z = []) ∧ Lo (leastP (leastP (leastP [] x) y) z) x ∧ Lo (leastP (leastP (leastP [] x) y) z) y ∧ Lo (leastP (leastP (leastP [] x) y) z) z ∧
    (leastP (leastP (leastP [] x) y) z ≠ [] → ∃ e, (e ∈ x ∨ e ∈ y ∨ e ∈ z) ∧ leastP (leastP (leastP [] x) y) z = e.1) := by
  obtain ⟨a1, a2, a3, a4⟩ := leastP_spec [] hx nx
  obtain ⟨b1, b2, b3, b4⟩ := leastP_spec (leastP [] x) hy ny
  obtain ⟨c1, c2, c3, c4⟩ := leastP_spec (leastP (leastP [] x) y) hz nz
  generalize leastP [] x = p at *
  generalize leastP p y = q at *
  generalize leastP q z = r at *
  have hqr : ∀ {w : List Ent}, Lo q w → (q = [] → w = []) → Lo r w := fun {w} h k => by
    by_cases c : q = []
    · rw [k c]; simp
    · exact h.mono (c3 c)
  have hpq : ∀ {w : List Ent}, Lo p w → (p = [] → w = []) → Lo q w := fun {w} h k => by
    by_cases c : p = []
    · rw [k c]; simp
    · exact h.mono (b3 c)
  refine ⟨by rw [c1, b1, a1]; simp [and_assoc], hqr (hpq a2 fun h => (a1.1 h).2) fun h => (a1.1 (b1.1 h).1).2, hqr b2 fun h => (b1.1 h).2, c2, fun hr => ?_⟩
  rcases c4 with c4 | ⟨e, he, c4⟩
  · rcases b4 with b4 | ⟨e, he, b4⟩
    · rcases a4 with a4 | ⟨e, he, a4⟩
      · exact absurd (by rw [c4, b4, a4]) hr
      · exact ⟨e, .inl he, by rw [c4, b4, a4]⟩
    · exact ⟨e, .inr (.inl he), by rw [c4, b4]⟩
  · exact ⟨e, .inr (.inr he), c4⟩
theorem headP_look {p : List UInt8} {x : List Ent} (hx : Rise x) (h : Lo p x) : headP p x = look x p := by
  cases x with
  | nil => rfl
  | cons e l =>
    rw [headP, look]
    by_cases c : e.1 = p
    · rw [if_pos c, beq_iff_eq.2 c]; rfl
    · rw [if_neg c, beq_eq_false_iff_ne.2 c]
      rw [Rise, List.pairwise_cons] at hx
      have h1 := bl_gt (h e (by simp)) c
      exact (look_none fun a ha k => bl_ne (bl_trans h1 (hx.1 a ha)) k.symm).symm
theorem tailP_sub (p : List UInt8) (x : List Ent) : (tailP p x).Sublist x := by
  cases x with
  | nil => exact .slnil
  | cons e l => rw [tailP]; cases e.1 == p with | true => exact List.sublist_cons_self _ _ | false => exact List.Sublist.refl _
theorem tailP_gt {p : List UInt8} {x : List Ent} (hx : Rise x) (h : Lo p x) : ∀ e ∈ tailP p x, Op.bytesLess p e.1 = true := by
  cases x with
  | nil => simp [tailP]
  | cons e l =>
    intro a ha
    rw [Rise, List.pairwise_cons] at hx
    rw [tailP] at ha
    cases c : e.1 == p with
    | true =>
      rw [c] at ha
      have := hx.1 a ha
      rw [beq_iff_eq.1 c] at this; exact this
    | false =>
      rw [c] at ha
      have h1 := bl_gt (h e (by simp)) (beq_eq_false_iff_ne.1 c)
      rcases List.mem_cons.1 ha with rfl | ha
      · exact h1
      · exact bl_trans h1 (hx.1 a ha)
theorem tailP_look {p q : List UInt8} {x : List Ent} (hq : q ≠ p) : look (tailP p x) q = look x q := by
  cases x with
  | nil => rfl
  | cons e l =>
    rw [tailP, look]
    cases c : e.1 == p with
    | true => rw [if_neg (by rw [beq_iff_eq.1 c]; exact fun h => hq h.symm)]; rfl
    | false => rfl
theorem tailP_len {p : List UInt8} {x : List Ent} (hx : Rise x) (h : Lo p x) {e : Ent} (he : e ∈ x) (hp : p = e.1) : (tailP p x).length < x.length := by
  cases x with
  | nil => cases he
  | cons a l =>
    have : (a.1 == p) = true := by
      rw [beq_iff_eq]
      rcases List.mem_cons.1 he with rfl | he
      · exact hp.symm
      · rw [Rise, List.pairwise_cons] at hx
        have h1 := hx.1 e he
        rw [← hp, h a (by simp)] at h1; cases h1
    rw [tailP, this]; simp
theorem sidesF_end (f : Nat) {x y z : List Ent} (h : leastP (leastP (leastP [] x) y) z = []) : sidesF (f + 1) x y z = [] := by rw [sidesF, h]
theorem sidesF_step (f : Nat) {x y z : List Ent} {p : List UInt8} (h : leastP (leastP (leastP [] x) y) z = p) (hp : p ≠ []) :
    sidesF (f + 1) x y z = ⟨p, headP p x, headP p y, headP p z⟩ :: sidesF f (tailP p x) (tailP p y) (tailP p z) := by
  rw [sidesF, h]
  cases p with
  | nil => exact absurd rfl hp
  | cons b q => rfl
/-- What of three rising lists is told. -/
structure SP (x y z : List Ent) (S : List Sd) : Prop where
  rise : S.Pairwise fun s t => Op.bytesLess s.p t.p = true
  ne : ∀ s ∈ S, s.p ≠ []
  a : ∀ s ∈ S, s.a = look x s.p
  b : ∀ s ∈ S, s.b = look y s.p
  c : ∀ s ∈ S, s.c = look z s.p
  mem : ∀ s ∈ S, ∃ e, (e ∈ x ∨ e ∈ y ∨ e ∈ z) ∧ e.1 = s.p
  all : ∀ e, e ∈ x ∨ e ∈ y ∨ e ∈ z → ∃ s ∈ S, s.p = e.1
theorem sidesF_spec : ∀ (f : Nat) (x y z : List Ent), x.length + y.length + z.length < f → Rise x → Rise y → Rise z → Pne x → Pne y → Pne z → SP x y z (sidesF f x y z)
  | 0, x, y, z, h, _, _, _, _, _, _ => by omega
  | f + 1, x, y, z, h, hx, hy, hz, nx, ny, nz => by
    obtain ⟨h1, h2, h3, h4, h5⟩ := least3_spec hx hy hz nx ny nz
    generalize hp : leastP (leastP (leastP [] x) y) z = p at *
    by_cases c : p = []
    · subst c
      obtain ⟨rfl, rfl, rfl⟩ := h1.1 rfl
      rw [sidesF_end f hp]
      exact ⟨.nil, by simp, by simp, by simp, by simp, by simp, by simp⟩
    · rw [sidesF_step f hp c]
      have sx := tailP_sub p x; have sy := tailP_sub p y; have sz := tailP_sub p z
      have hlen : (tailP p x).length + (tailP p y).length + (tailP p z).length < f := by
        obtain ⟨e, he, hpe⟩ := h5 c
        have l1 := sx.length_le; have l2 := sy.length_le; have l3 := sz.length_le
        rcases he with he | he | he
        · have := tailP_len hx h2 he hpe; omega
        · have := tailP_len hy h3 he hpe; omega
        · have := tailP_len hz h4 he hpe; omega
      have ih := sidesF_spec f (tailP p x) (tailP p y) (tailP p z) hlen (hx.sublist sx) (hy.sublist sy) (hz.sublist sz) (fun e he => nx e (sx.subset he)) (fun e he => ny e (sy.subset he)) (fun e he => nz e (sz.subset he))
      have hgt : ∀ s ∈ sidesF f (tailP p x) (tailP p y) (tailP p z), Op.bytesLess p s.p = true := fun s hs => by
        obtain ⟨e, he, hpe⟩ := ih.mem s hs
        rw [← hpe]
        rcases he with he | he | he
        · exact tailP_gt hx h2 e he
        · exact tailP_gt hy h3 e he
        · exact tailP_gt hz h4 e he
      have hne : ∀ s ∈ sidesF f (tailP p x) (tailP p y) (tailP p z), s.p ≠ p := fun s hs k => bl_ne (hgt s hs) k.symm
      refine ⟨List.pairwise_cons.2 ⟨hgt, ih.rise⟩, ?_, ?_, ?_, ?_, ?_, ?_⟩
      · intro s hs
        rcases List.mem_cons.1 hs with rfl | hs
        · exact c
        · exact ih.ne s hs
      · intro s hs
        rcases List.mem_cons.1 hs with rfl | hs
        · exact headP_look hx h2
        · rw [ih.a s hs, tailP_look (hne s hs)]
      · intro s hs
        rcases List.mem_cons.1 hs with rfl | hs
        · exact headP_look hy h3
        · rw [ih.b s hs, tailP_look (hne s hs)]
      · intro s hs
        rcases List.mem_cons.1 hs with rfl | hs
        · exact headP_look hz h4
        · rw [ih.c s hs, tailP_look (hne s hs)]
      · intro s hs
        rcases List.mem_cons.1 hs with rfl | hs
        · obtain ⟨e, he, hpe⟩ := h5 c
          exact ⟨e, he, hpe.symm⟩
        · obtain ⟨e, he, hpe⟩ := ih.mem s hs
          exact ⟨e, he.imp (fun h => sx.subset h) (Or.imp (fun h => sy.subset h) fun h => sz.subset h), hpe⟩
      · intro e he
        have tl : ∀ {w : List Ent}, Lo p w → e ∈ w → e.1 = p ∨ e ∈ tailP p w := fun {w} hw hew => by
          by_cases k : e.1 = p
          · exact .inl k
          · right
            cases w with
            | nil => cases hew
            | cons d l =>
              rw [tailP]
              cases k2 : d.1 == p with
              | false => exact hew
              | true =>
                rcases List.mem_cons.1 hew with rfl | hew
                · exact absurd (beq_iff_eq.1 k2) k
                · exact hew
        have hh : e.1 = p ∨ (e ∈ tailP p x ∨ e ∈ tailP p y ∨ e ∈ tailP p z) := by
          rcases he with he | he | he
          · exact (tl h2 he).imp id .inl
          · exact (tl h3 he).imp id fun h => .inr (.inl h)
          · exact (tl h4 he).imp id fun h => .inr (.inr h)
        rcases hh with hh | hh
        · exact ⟨_, List.mem_cons_self, hh.symm⟩
        · obtain ⟨s, hs, hp⟩ := ih.all e hh
          exact ⟨s, by simp [hs], hp⟩
/-- Lists of right trees' entries. -/
structure Gd (x : List Ent) : Prop where
  rise : Rise x
  pne : Pne x
  rne : Rne x
  len : ∀ e ∈ x, e.1.length ≤ 24
  right : ∀ e ∈ x, right e.2 = true
theorem sidesP_spec {x y z : List Ent} (hx : Gd x) (hy : Gd y) (hz : Gd z) : SP x y z (sidesP x y z) :=
  sidesF_spec _ x y z (Nat.lt_succ_self _) hx.rise hy.rise hz.rise hx.pne hy.pne hz.pne
theorem Gd.nil : Gd [] := ⟨.nil, by simp, by simp, by simp, by simp⟩
mutual
theorem entT_len24 : ∀ (t : Nd) (n : Nat), okT t n = true → ∀ e ∈ entT t, e.1.length ≤ n
  | .node s rs ks, n, h, e, he => by
    obtain ⟨g1, g2, g3, g4, g5⟩ := okT_iff.1 h
    simp only [Nd.lab_node, Nd.rows_node, Nd.kids_node] at g2 g5
    rw [entT] at he
    rcases List.mem_append.1 he with he | he
    · split at he
      · cases he
      · simp only [List.mem_singleton] at he; subst he; exact g2
    · obtain ⟨d, hd, rfl⟩ := List.mem_map.1 he
      have := entL_len24 ks _ g5 d hd
      simp only [List.length_append]; omega
theorem entL_len24 : ∀ (l : List Nd) (n : Nat), kidsOk l n → ∀ e ∈ entL l, e.1.length ≤ n
  | [], _, _, e, he => by simp [entL] at he
  | t :: r, n, h, e, he => by
    rw [entL] at he
    rcases List.mem_append.1 he with he | he
    · exact entT_len24 t n (h.1 t (by simp)) e he
    · exact entL_len24 r n (kidsOk_sub h (List.sublist_cons_self _ _)) e he
end
theorem gd_ent {t : Nd} (h : okR t = true) : Gd (entR t) :=
  have hk := (okR_iff.1 h).2.2
  ⟨entR_rise h, entL_ne_nil hk, entL_ne _, entL_len24 _ _ hk, entL_right _ _ hk⟩
theorem entP_R {t : Nd} (h : okR t = true) : entP t = entR t := by rw [entP, h]; rfl
theorem gd_entP (t : Nd) : Gd (entP t) := by
  rw [entP]
  cases h : okR t with
  | false => exact Gd.nil
  | true => exact gd_ent h
theorem getR_P (t : Nd) (q : List UInt8) : getR t q = look (entP t) q := by
  rw [getR_look, entP]
  cases okR t <;> rfl
theorem entP_inj {t u : Nd} (h : okR t = true) (k : okR u = true) (e : entR t = entR u) : t = u := by
  obtain ⟨a1, a2, _⟩ := okR_iff.1 h
  obtain ⟨b1, b2, _⟩ := okR_iff.1 k
  have e1 := of_ent h (f := sizeL t.kids + sizeL u.kids) (by omega)
  have e2 := of_ent k (f := sizeL t.kids + sizeL u.kids) (by omega)
  rw [e] at e1
  have e3 : t.kids = u.kids := e1.symm.trans e2
  cases t; cases u
  simp only [Nd.lab_node, Nd.rows_node, Nd.kids_node] at a1 a2 b1 b2 e3
  rw [a1, a2, b1, b2, e3]
def bad3 (a b c : List Row) : Bool := decide (b ≠ c ∧ a ≠ c ∧ a ≠ b)
def met3 (a b c : List Row) : List Row := if b = c ∨ a = c then b else c
def badS (s : Sd) : Bool := bad3 s.a s.b s.c
def metS (s : Sd) : List Row := met3 s.a s.b s.c
def gM (s : Sd) : Option (List Row) := if badS s = true then none else some (metS s)
def nd0 : Nd := .node [] [] []
def putsF (g : Sd → Option (List Row)) : Nd → List Sd → Nd
  | t, [] => t
  | t, s :: r => putsF g (match g s with | some l => putR t s.p l | none => t) r
end Go.Proofs.YtgaabjmbnomimaaDoor
namespace Go.Proofs.YtgaabjmbnomimaaDoor
open Go Go.Ev
theorem leastP_or (p : List UInt8) (x : List Ent) : leastP p x = p ∨ ∃ e l, x = e :: l ∧ leastP p x = e.1 := by
  cases x with
  | nil => exact .inl rfl
  | cons e l =>
    cases p with
    | nil => exact .inr ⟨e, l, rfl, rfl⟩
    | cons b q =>
      simp only [leastP]
      cases Op.bytesLess e.1 (b :: q) with
      | true => exact .inr ⟨e, l, rfl, rfl⟩
      | false => exact .inl rfl
theorem least3_or (x y z : List Ent) : least3 x y z = [] ∨ ∃ e l, (x = e :: l ∨ y = e :: l ∨ z = e :: l) ∧ least3 x y z = e.1 := by
  unfold least3
  rcases leastP_or (leastP (leastP [] x) y) z with h | ⟨e, l, h1, h2⟩
  · rw [h]
    rcases leastP_or (leastP [] x) y with h | ⟨e, l, h1, h2⟩
    · rw [h]
      rcases leastP_or [] x with h | ⟨e, l, h1, h2⟩
      · exact .inl h
      · exact .inr ⟨e, l, .inl h1, h2⟩
    · exact .inr ⟨e, l, .inr (.inl h1), h2⟩
  · exact .inr ⟨e, l, .inr (.inr h1), h2⟩
theorem tailP_lt {x : List Ent} {e : Ent} {l : List Ent} (h : x = e :: l) : (tailP e.1 x).length < x.length := by
  subst h; simp [tailP]
theorem tails_lt {x y z : List Ent} (h : least3 x y z ≠ []) : (tailP (least3 x y z) x).length + (tailP (least3 x y z) y).length + (tailP (least3 x y z) z).length < x.length + y.length + z.length := by
  have l1 := (tailP_sub (least3 x y z) x).length_le
  have l2 := (tailP_sub (least3 x y z) y).length_le
  have l3 := (tailP_sub (least3 x y z) z).length_le
  rcases least3_or x y z with k | ⟨e, l, k | k | k, hp⟩
  · exact absurd k h
  · have := tailP_lt k; rw [← hp] at this; omega
  · have := tailP_lt k; rw [← hp] at this; omega
  · have := tailP_lt k; rw [← hp] at this; omega
structure PreU (es : List (List V)) (u : List (List V)) (b : Bool) (m : Nat) (i : List Ent × List Ent × List Ent × List (List V)) : Prop where
  rx : Rne i.1
  ry : Rne i.2.1
  rz : Rne i.2.2.1
  at_ : ∃ c f, i.1.length + i.2.1.length + i.2.2.1.length < f ∧ es.drop c = (sidesF f i.1 i.2.1 i.2.2.1).map encS ∧ c ≤ es.length ∧ At u b m c i.2.2.2
theorem rne_tail {p : List UInt8} {x : List Ent} (h : Rne x) : Rne (tailP p x) := fun e he => h e ((tailP_sub p x).subset he)
theorem eqb_encS (p : List UInt8) (a b c : List Row) : eqbV [V.agg [V.c (C.str p), V.c (C.sl 5 (rcN a) (rcT a) (rows a)), V.c (C.sl 5 (rcN b) (rcT b) (rows b)), V.c (C.sl 5 (rcN c) (rcT c) (rows c))]] (encS ⟨p, a, b, c⟩) = true := by
  cases a <;> cases b <;> cases c <;> simp [encS, rowsV, rcN, rcT, rows, eqbV, V.eqb, eqb_refl]
theorem loopU {es u : List (List V)} {b : Bool} {m : Nat} (hu : u = es.take m) (hm : m ≤ es.length) (hb : b = false → m = es.length) (kn : Option Bool) (kt : Bool) (xsh : List (List C)) (n0 : Option Bool) (t0 : Bool) (n1 : Option Bool) (t1 : Bool) (n2 : Option Bool) (t2 : Bool)
    (x y z : List Ent) (r : List (List V)) (hp : PreU es u b m (x, y, z, r)) : p137.fd (Tr.ls 1 (u137 kn kt xsh r b n0 t0 (ents x) n1 t1 (ents y) n2 t2 (ents z))) = some (.out [] [O.box [V.c (C.sl 3 kn kt xsh)], O.yo [] b]) := by
  refine fd_post hct137 (by kernel_rfl) rfl (loops_post (p := p137) hct137 (b := bU137) (ι := List Ent × List Ent × List Ent × List (List V)) (fun i => u137 kn kt xsh i.2.2.2 b n0 t0 (ents i.1) n1 t1 (ents i.2.1) n2 t2 (ents i.2.2.1)) (PreU es u b m) (fun i => i.1.length + i.2.1.length + i.2.2.1.length) _ ?_ (x, y, z, r) hp)
  rintro ⟨x, y, z, r⟩ ⟨rx, ry, rz, c, f, hf, hd, hc, hat⟩
  dsimp only at rx ry rz hf hd hat
  obtain ⟨f, rfl⟩ : ∃ k, f = k + 1 := ⟨f - 1, by omega⟩
  obtain ⟨_, rfl, hA⟩ := loopA kn kt xsh r b n0 t0 x n1 t1 y n2 t2 z
  by_cases hl : least3 x y z = []
  · rw [sidesF_end f hl, List.map_nil] at hd
    have hce : c = es.length := by
      have := congrArg List.length hd
      simp only [List.length_drop, List.length_nil] at this; omega
    obtain ⟨rfl, rfl⟩ := hat.end_ hu hm hce
    refine .inr ⟨xE137 kn kt xsh [] false n0 t0 (ents x) n1 t1 (ents y) n2 t2 (ents z) [], by simp, by rw [k137e, fd_leaf], ?_⟩
    dsimp only
    rw [t137u]
    refine ld_post hct137 (by kernel_rfl) rfl ⟨_, ?_, hA⟩
    rw [hl, t137v, ld_br, ld_leaf]; rfl
  · rw [sidesF_step f rfl hl, List.map_cons] at hd
    have hlt := tails_lt hl
    have hcl : c < es.length := by
      rcases Nat.lt_or_ge c es.length with h | h
      · exact h
      · rw [List.drop_of_length_le h] at hd; cases hd
    have hd2 := hd
    rw [List.drop_eq_getElem_cons hcl] at hd2
    simp only [List.cons.injEq] at hd2
    obtain ⟨_, hr1, _, hr3⟩ := hat.next hu hm hb hcl
    rw [hd2.1] at hr1
    obtain ⟨_, rfl, hB⟩ := loopB kn kt xsh r b n0 t0 x n1 t1 y n2 t2 z (least3 x y z) rx ry rz
    have hyo : yoHd r [V.agg [V.c (C.str (least3 x y z)), V.c (C.sl 5 (rcN (headP (least3 x y z) x)) (rcT (headP (least3 x y z) x)) (rows (headP (least3 x y z) x))), V.c (C.sl 5 (rcN (headP (least3 x y z) y)) (rcT (headP (least3 x y z) y)) (rows (headP (least3 x y z) y))), V.c (C.sl 5 (rcN (headP (least3 x y z) z)) (rcT (headP (least3 x y z) z)) (rows (headP (least3 x y z) z)))]] = true := by
      rw [hr1]; exact eqb_encS _ _ _ _
    have hne : (least3 x y z == []) = false := by
      cases h : least3 x y z with
      | nil => exact absurd h hl
      | cons a s => rfl
    have go : p137.ld bU137 (p137.lts bU137 (u137 kn kt xsh r b n0 t0 (ents x) n1 t1 (ents y) n2 t2 (ents z))) = (if (!yoAns r b) = true then some (R.x (x137wx0 kn kt xsh r b (least3 x y z) (rcN (headP (least3 x y z) x)) (rcT (headP (least3 x y z) x)) (rows (headP (least3 x y z) x)) (rcN (headP (least3 x y z) y)) (rcT (headP (least3 x y z) y)) (rows (headP (least3 x y z) y)) (rcN (headP (least3 x y z) z)) (rcT (headP (least3 x y z) z)) (rows (headP (least3 x y z) z)) ([[C.sl 2 n0 t0 (ents (tailP (least3 x y z) x))], [C.sl 2 n1 t1 (ents (tailP (least3 x y z) y))], [C.sl 2 n2 t2 (ents (tailP (least3 x y z) z))]])))
        else some (R.s (u137 kn kt xsh r.tail b n0 t0 (ents (tailP (least3 x y z) x)) n1 t1 (ents (tailP (least3 x y z) y)) n2 t2 (ents (tailP (least3 x y z) z))))) := by
      rw [t137u]
      refine ld_post hct137 (by kernel_rfl) (by split <;> rfl) ⟨_, ?_, hA⟩
      rw [t137v, ld_br, hne, if_neg (by simp)]
      refine ld_post hct137 (by kernel_rfl) (by split <;> rfl) ⟨_, ?_, hB⟩
      rw [t137w, ld_chk', if_pos hyo, ld_br]
      split <;> rfl
    rcases hr3 with ⟨h1, h2⟩ | ⟨h1, h2, h3⟩
    · refine .inl ⟨(tailP (least3 x y z) x, tailP (least3 x y z) y, tailP (least3 x y z) z, r.tail), ⟨rne_tail rx, rne_tail ry, rne_tail rz, c + 1, f, by dsimp only; omega, hd2.2, hcl, h2⟩, hlt, ?_⟩
      dsimp only
      rw [go, h1]; rfl
    · refine .inr ⟨x137wx0 kn kt xsh r b (least3 x y z) (rcN (headP (least3 x y z) x)) (rcT (headP (least3 x y z) x)) (rows (headP (least3 x y z) x)) (rcN (headP (least3 x y z) y)) (rcT (headP (least3 x y z) y)) (rows (headP (least3 x y z) y)) (rcN (headP (least3 x y z) z)) (rcT (headP (least3 x y z) z)) (rows (headP (least3 x y z) z)) ([[C.sl 2 n0 t0 (ents (tailP (least3 x y z) x))], [C.sl 2 n1 t1 (ents (tailP (least3 x y z) y))], [C.sl 2 n2 t2 (ents (tailP (least3 x y z) z))]]), by simp, ?_, by dsimp only; rw [go, h1]; rfl⟩
      have : p137.fkx 1 (x137wx0 kn kt xsh r b (least3 x y z) (rcN (headP (least3 x y z) x)) (rcT (headP (least3 x y z) x)) (rows (headP (least3 x y z) x)) (rcN (headP (least3 x y z) y)) (rcT (headP (least3 x y z) y)) (rows (headP (least3 x y z) y)) (rcN (headP (least3 x y z) z)) (rcT (headP (least3 x y z) z)) (rows (headP (least3 x y z) z)) ([[C.sl 2 n0 t0 (ents (tailP (least3 x y z) x))], [C.sl 2 n1 t1 (ents (tailP (least3 x y z) y))], [C.sl 2 n2 t2 (ents (tailP (least3 x y z) z))]])) =
          Tr.leaf (R.out [] [O.box [V.c (C.sl 3 kn kt xsh)], O.yo r.tail b]) := by kernel_rfl
      rw [this, fd_leaf, h2]
def slE (t : Nd) : List C := [C.sl 2 none false (ents (entP t))]
def sl0 : List C := [C.sl 2 (some true) true []]
def ysK (ts : List Nd) (k : Nat) : List (List C) := (ts.take k).map slE ++ List.replicate (3 - k) sl0
theorem ysK_set (ts : List Nd) (k : Nat) (hk : k < ts.length) (h3 : k < 3) : (ysK ts k).set k (slE ts[k]) = ysK ts (k + 1) := by
  unfold ysK
  rw [List.take_succ_eq_append_getElem hk]
  obtain ⟨j, hj⟩ : ∃ j, 3 - k = j + 1 := ⟨2 - k, by omega⟩
  have hj2 : 3 - (k + 1) = j := by omega
  rw [hj, hj2, List.replicate_succ, List.map_append, List.append_assoc]
  rw [List.set_append_right _ _ (by simp; omega)]
  have : k - ((ts.take k).map slE).length = 0 := by simp; omega
  rw [this]; rfl
theorem ysK_len (ts : List Nd) (k : Nat) (hk : k ≤ ts.length) (h3 : k ≤ 3) : (ysK ts k).length = 3 := by
  unfold ysK; simp; omega
theorem loop137 (kn : Option Bool) (kt : Bool) (ts : List Nd) (r : List (List V)) (q : Bool) (h3 : ts.length ≤ 3) (hn : ∀ t ∈ ts, (entL t.kids).length < 1000000000) (R0 : R)
    (h : p137.fd (Tr.ls 1 (s137_1 kn kt r q (encL ts) (ysK ts ts.length))) = some R0) :
    p137.fd (Tr.ls 0 (s137_0 kn kt r q (encL ts) ts.length 0 (encL ts) (ysK ts 0))) = some R0 := by
  refine fd_post hct137 (by kernel_rfl) rfl (list_post (p := p137) hct137 (b := b137_0) ts.length (fun k (_ : Unit) => s137_0 kn kt r q (encL ts) ts.length k (encL ts) (ysK ts k)) (fun _ _ => True) _ ?_ ?_ 0 (Nat.zero_le _) () trivial)
  · intro k _ hk _
    refine .inl ⟨(), trivial, ?_⟩
    have hn' := hn _ (List.getElem_mem hk)
    have hyl := ysK_len ts k (by omega) (by omega)
    have hkl : (k : Int) < 3 := by omega
    have hset := ysK_set ts k hk (by omega)
    have hyk : ((ysK ts k).getD k []).length = 1 := by
      have e : (ysK ts k).getD k [] = sl0 := by
        unfold ysK
        rw [List.getD_eq_getElem?_getD, List.getElem?_append_right (by simp; omega)]
        have : k - ((ts.take k).map slE).length = 0 := by simp; omega
        rw [this]
        obtain ⟨j, hj⟩ : ∃ j, 3 - k = j + 1 := ⟨2 - k, by omega⟩
        rw [hj]; rfl
      rw [e]; rfl
    rw [t137_0]
    have h3k : k < 3 := by omega
    simp only [nd_ok, nd_lab, nd_rows, nd_kids, encL_length, isL_enc, decL_enc, wrap_hd, hd_pos, ld_br, ld_chk', ld_leaf, fd_br, fd_chk', fd_leaf, decide_true, decide_eq_true_eq, if_true, Int.toNat_natCast, Int.natCast_nonneg, Int.ofNat_lt, Int.ofNat_le, Bool.false_eq_true, if_false, bne_iff_ne, beq_iff_eq, ne_eq, not_true_eq_false, not_false_eq_true, Bool.not_eq_true', decide_eq_false_iff_not, reduceCtorEq, rows_length, pcs_length, er_ok, er_ok', ep_ok, ep_ok', dr_er, dp_ep, isRows_rows, isPcs_pcs, toRows_rows, toPcs_pcs, rows_take, rows_drop, pcs_take, pcs_drop, rows_append, pcs_append, ints_length, isInts_ints, toInts_ints, ei_i, ei_ok, mk_headD, ints_take, ints_drop, ints_append, ints_snoc, ints_snoc', List.take_length, Nat.zero_add, Nat.le_refl, er_a, er_b, er_k, er_n, er_s, er_v, ep_a, ep_b, ep_hk, ep_hn, ep_hs, ep_wk, ep_wn, ep_ws, hk, encL_getD hk, hn', hkl, h3k, hyl, hyk]
    rw [← hset, wrap_succ (by omega)]
    rfl
  · intro _ _
    refine ⟨x137_0x0 kn kt r q (encL ts) ts.length ts.length (encL ts) (ysK ts ts.length), by simp, by rw [k137_0x0]; exact h, ?_⟩
    rw [t137_0]
    simp only [nd_ok, nd_lab, nd_rows, nd_kids, encL_length, isL_enc, decL_enc, wrap_hd, hd_pos, ld_br, ld_chk', ld_leaf, fd_br, fd_chk', fd_leaf, decide_true, decide_eq_true_eq, if_true, Int.toNat_natCast, Int.natCast_nonneg, Int.ofNat_lt, Int.ofNat_le, Bool.false_eq_true, if_false, bne_iff_ne, beq_iff_eq, ne_eq, not_true_eq_false, not_false_eq_true, Bool.not_eq_true', decide_eq_false_iff_not, reduceCtorEq, rows_length, pcs_length, er_ok, er_ok', ep_ok, ep_ok', dr_er, dp_ep, isRows_rows, isPcs_pcs, toRows_rows, toPcs_pcs, rows_take, rows_drop, pcs_take, pcs_drop, rows_append, pcs_append, ints_length, isInts_ints, toInts_ints, ei_i, ei_ok, mk_headD, ints_take, ints_drop, ints_append, ints_snoc, ints_snoc', List.take_length, Nat.zero_add, Nat.le_refl, er_a, er_b, er_k, er_n, er_s, er_v, ep_a, ep_b, ep_hk, ep_hn, ep_hs, ep_wk, ep_wn, ep_ws, Int.lt_irrefl]
def S2 (a b : Nd) : List Sd := sidesP (entP a) (entP b) []
theorem sq137_2 (kn : Option Bool) (kt : Bool) (a b : Nd) : E.seq 137 [.yl 1, .ptr 0 0 0 0] [.box [.c (.sl 3 kn kt (encL [a, b]))]] = some ((S2 a b).map encS) := by
  have : sq 137 [.yl 1, .ptr 0 0 0 0] [.box [.c (.sl 3 kn kt (encL [a, b]))]] = some ((S2 a b).map encS) := by
    simp only [sq, sq137, decL_enc]; rfl
  exact this
theorem f137_2 (kn : Option Bool) (kt : Bool) (a b : Nd) (ha : (entL a.kids).length < 1000000000) (hb : (entL b.kids).length < 1000000000) (u : List (List V)) (q : Bool) (hw : Want ((S2 a b).map encS) u q) :
    call E 137 [.yl 1, .ptr 0 0 0 0] ([.box [.c (.sl 3 kn kt (encL [a, b]))]] ++ [.yo u q]) = some ([], [.box [.c (.sl 3 kn kt (encL [a, b]))], .yo [] q]) := by
  refine call_of (E := E) (sh := sh) (ct := ctOf [(34, s34)]) (na := 2) (m := 2) hct137 rfl rfl rfl rfl rfl rfl ?_
  have ht : p137.ft [.yl 1, .ptr 0 0 0 0] [.box [.c (.sl 3 kn kt [a.enc, b.enc])], .yo u q] = (Tr.ls 0 (s137_0 kn kt u q ([a.enc, b.enc]) (2) (0) ([a.enc, b.enc]) ([[C.sl 2 (some true) true []], [C.sl 2 (some true) true []], [C.sl 2 (some true) true []]]))) := by kernel_rfl
  show p137.fd (p137.ft [.yl 1, .ptr 0 0 0 0] [.box [.c (.sl 3 kn kt [a.enc, b.enc])], .yo u q]) = _
  rw [ht]
  obtain ⟨m, hu, hm0, hm1, hm2⟩ := want_take hw
  refine loop137 kn kt [a, b] u q (by simp) (by simpa using ⟨ha, hb⟩) _ ?_
  exact loopU hu hm0 hm1 kn kt (encL [a, b]) none false none false (some true) true (entP a) (entP b) [] u ⟨(gd_entP a).rne, (gd_entP b).rne, by simp, 0, _, Nat.lt_succ_self _, rfl, Nat.zero_le _, rfl, Nat.zero_le _, fun h => hm2 h⟩
end Go.Proofs.YtgaabjmbnomimaaDoor
namespace Go.Proofs.YtgaabjmbnomimaaDoor
open Go Go.Ev
section
variable {x y z : List Ent} {S : List Sd} (hs : SP x y z S) (hx : Gd x) (hy : Gd y) (hz : Gd z)
include hs
theorem SP.ex {q : List UInt8} (h : look x q ≠ [] ∨ look y q ≠ [] ∨ look z q ≠ []) : ∃ s ∈ S, s.p = q := by
  rcases h with h | h | h
  · obtain ⟨e, he, hp⟩ := look_ex h; obtain ⟨s, h1, h2⟩ := hs.all e (.inl he); exact ⟨s, h1, h2.trans hp⟩
  · obtain ⟨e, he, hp⟩ := look_ex h; obtain ⟨s, h1, h2⟩ := hs.all e (.inr (.inl he)); exact ⟨s, h1, h2.trans hp⟩
  · obtain ⟨e, he, hp⟩ := look_ex h; obtain ⟨s, h1, h2⟩ := hs.all e (.inr (.inr he)); exact ⟨s, h1, h2.trans hp⟩
omit hs in
theorem look_right (hx : Gd x) (q : List UInt8) : right (look x q) = true := by
  by_cases c : look x q = []
  · rw [c]; rfl
  · obtain ⟨e, he, hp⟩ := look_ex c
    rw [← hp, look_in hx.rise he]; exact hx.right e he
include hx hy hz
theorem SP.path {s : Sd} (h : s ∈ S) : s.p ≠ [] ∧ s.p.length ≤ 24 := by
  refine ⟨hs.ne s h, ?_⟩
  obtain ⟨e, he, hp⟩ := hs.mem s h
  rw [← hp]
  rcases he with he | he | he
  · exact hx.len e he
  · exact hy.len e he
  · exact hz.len e he
end
def mergeT (a b c : Nd) : Nd := putsF gM nd0 (sidesP (entP a) (entP b) (entP c))
def badL (S : List Sd) : List (List UInt8) := (S.filter badS).map Sd.p
def badT (a b c : Nd) : List (List UInt8) := badL (sidesP (entP a) (entP b) (entP c))
/-- Right trees in which each path has the same are the same. -/
theorem tree_ext {t u : Nd} (h : okR t = true) (k : okR u = true) (e : ∀ q, getR t q = getR u q) : t = u := by
  refine entP_inj h k ?_
  have h1 := gd_ent h; have h2 := gd_ent k
  refine rise_ext h1.rise h2.rise h1.rne h2.rne fun q => ?_
  have := e q
  rw [getR_P, getR_P, entP_R h, entP_R k] at this; exact this
def chgT (a b : Nd) : List Sd := (sidesP (entP a) (entP b) []).filter fun s => decide (s.a ≠ s.b)
theorem spC (a b : Nd) : SP (entP a) (entP b) [] (sidesP (entP a) (entP b) []) := sidesP_spec (gd_entP a) (gd_entP b) Gd.nil
theorem chg_rise (a b : Nd) : (chgT a b).Pairwise fun s t => Op.bytesLess s.p t.p = true := (spC a b).rise.sublist List.filter_sublist
theorem chg_mem {a b : Nd} {s : Sd} (h : s ∈ chgT a b) : s.a = getR a s.p ∧ s.b = getR b s.p ∧ s.a ≠ s.b ∧ s.p ≠ [] ∧ s.p.length ≤ 24 := by
  obtain ⟨h1, h2⟩ := List.mem_filter.1 h
  have h3 := (spC a b).path (gd_entP a) (gd_entP b) Gd.nil h1
  exact ⟨by rw [getR_P, (spC a b).a s h1], by rw [getR_P, (spC a b).b s h1], by simpa using h2, h3.1, h3.2⟩
theorem chg_ex {a b : Nd} {q : List UInt8} (h : getR a q ≠ getR b q) : ∃ s ∈ chgT a b, s.p = q := by
  have hne : look (entP a) q ≠ [] ∨ look (entP b) q ≠ [] ∨ look [] q ≠ [] := by
    rw [getR_P, getR_P] at h
    by_cases c1 : look (entP a) q = []
    · right; left; intro k; exact h (by rw [c1, k])
    · exact .inl c1
  obtain ⟨s, h1, rfl⟩ := (spC a b).ex hne
  refine ⟨s, List.mem_filter.2 ⟨h1, ?_⟩, rfl⟩
  rw [getR_P, getR_P] at h
  rw [(spC a b).a s h1, (spC a b).b s h1]
  simpa using h
def repT (t : Nd) (X : List Sd) : Nd := X.foldl (fun t s => putR t s.p s.b) t
theorem repT_get : ∀ {X : List Sd} {t : Nd}, okR t = true → (∀ s ∈ X, s.p ≠ [] ∧ s.p.length ≤ 24 ∧ right s.b = true) → (X.Pairwise fun s t => Op.bytesLess s.p t.p = true) →
    okR (repT t X) = true ∧ (∀ s ∈ X, getR (repT t X) s.p = s.b) ∧ ∀ q, (∀ s ∈ X, s.p ≠ q) → getR (repT t X) q = getR t q
  | [], t, h, _, _ => ⟨h, by simp, fun _ _ => rfl⟩
  | s :: X, t, h, hp, hr => by
    rw [List.pairwise_cons] at hr
    obtain ⟨p1, p2, p3⟩ := hp s (by simp)
    have hput := getR_put h (isPath_iff.2 ⟨p1, p2⟩) p3
    obtain ⟨k1, k2, k3⟩ := repT_get (X := X) (putR_ok h p1 p2 p3).1 (fun a ha => hp a (by simp [ha])) hr.2
    refine ⟨k1, fun a ha => ?_, fun q hq => ?_⟩
    · rcases List.mem_cons.1 ha with rfl | ha
      · refine (k3 a.p fun u hu k => bl_ne (hr.1 u hu) k.symm).trans ?_
        rw [hput, if_pos rfl]
      · exact k2 a ha
    · refine (k3 q fun u hu => hq u (by simp [hu])).trans ?_
      rw [hput, if_neg fun k => hq s (by simp) k.symm]
def bakS (s : Sd) : Sd := ⟨s.p, s.b, s.a, s.c⟩
theorem rep_chg {a b : Nd} (h : okR a = true) (k : okR b = true) : repT a (chgT a b) = b := by
  obtain ⟨h1, h2, h3⟩ := repT_get (X := chgT a b) h (fun s hs => by
    obtain ⟨_, e2, _, e4, e5⟩ := chg_mem hs
    exact ⟨e4, e5, by rw [e2, getR_P]; exact look_right (gd_entP b) _⟩) (chg_rise a b)
  refine tree_ext h1 k fun q => ?_
  by_cases c : getR a q = getR b q
  · by_cases d : ∀ s ∈ chgT a b, s.p ≠ q
    · rw [h3 q d, c]
    · have : ∃ s ∈ chgT a b, s.p = q := by
        by_cases e : ∃ s ∈ chgT a b, s.p = q
        · exact e
        · exact absurd (fun s hs hp => e ⟨s, hs, hp⟩) d
      obtain ⟨s, hs, rfl⟩ := this
      rw [h2 s hs, (chg_mem hs).2.1]
  · obtain ⟨s, hs, rfl⟩ := chg_ex c
    rw [h2 s hs, (chg_mem hs).2.1]
theorem rep_bak {a b : Nd} (h : okR a = true) (k : okR b = true) : repT b ((chgT a b).map bakS) = a := by
  obtain ⟨h1, h2, h3⟩ := repT_get (X := (chgT a b).map bakS) k (fun s hs => by
    obtain ⟨s, hs2, rfl⟩ := List.mem_map.1 hs
    obtain ⟨e1, _, _, e4, e5⟩ := chg_mem hs2
    exact ⟨e4, e5, by show right s.a = true; rw [e1, getR_P]; exact look_right (gd_entP a) _⟩) (by rw [List.pairwise_map]; exact chg_rise a b)
  refine tree_ext h1 h fun q => ?_
  by_cases d : ∃ s ∈ chgT a b, s.p = q
  · obtain ⟨s, hs, rfl⟩ := d
    have := h2 (bakS s) (List.mem_map_of_mem hs)
    rw [show (bakS s).p = s.p from rfl] at this
    rw [this, ← (chg_mem hs).1]; rfl
  · rw [h3 q fun s hs hp => by obtain ⟨s, hs2, rfl⟩ := List.mem_map.1 hs; exact d ⟨s, hs2, hp⟩]
    by_cases c : getR a q = getR b q
    · exact c.symm
    · exact absurd (chg_ex c) d
end Go.Proofs.YtgaabjmbnomimaaDoor
namespace Go.Proofs.YtgaabjmbnomimaaDoor
open Go Go.Ev
def metR (a b c : List Row) : List Row := if bad3 a b c = true then [] else met3 a b c
def s95 : CSpec := fun a h => match a, h with
  | [.agg [.c (.str p), .c (.sl 5 n0 t0 x0), .c (.sl 5 n1 t1 x1), .c (.sl 5 n2 t2 x2)]], [] => some ([isRows x0, isRows x1, isRows x2, decide (x0.length ≤ 9223372036854775807), decide (x1.length ≤ 9223372036854775807)],
      [.c (.sl 5 none false (rows (metR (toRows x0) (toRows x1) (toRows x2)))), V.b (!bad3 (toRows x0) (toRows x1) (toRows x2))], [])
  | _, _ => none
theorem f136 (s : List UInt8) (rn : Option Bool) (rt : Bool) (rs : List Row) (kn : Option Bool) (kt : Bool) (ks : List Nd) :
    call E 136 [.agg [.c (.str s), .c (.sl 5 rn rt (rows rs)), .c (.sl 3 kn kt (encL ks))]] [] = some ([V.b (!okR (.node s rs ks))], []) := by
  refine call_of (E := E) (sh := sh) (ct := ctOf [(28, s28)]) (na := 1) (m := 0) (ctOf_cons s28_ok ctOf_nil) rfl rfl rfl rfl rfl rfl ?_
  rw [t136]
  simp only [nd_ok, nd_lab, nd_rows, nd_kids, encL_length, isL_enc, decL_enc, wrap_hd, hd_pos, ld_br, ld_chk', ld_leaf, fd_br, fd_chk', fd_leaf, decide_true, decide_eq_true_eq, if_true, Int.toNat_natCast, Int.natCast_nonneg, Int.ofNat_lt, Int.ofNat_le, Bool.false_eq_true, if_false, bne_iff_ne, beq_iff_eq, ne_eq, not_true_eq_false, not_false_eq_true, Bool.not_eq_true', decide_eq_false_iff_not, reduceCtorEq, rows_length, pcs_length, er_ok, er_ok', ep_ok, ep_ok', dr_er, dp_ep, isRows_rows, isPcs_pcs, toRows_rows, toPcs_pcs, rows_take, rows_drop, pcs_take, pcs_drop, rows_append, pcs_append, ints_length, isInts_ints, toInts_ints, ei_i, ei_ok, mk_headD, ints_take, ints_drop, ints_append, ints_snoc, ints_snoc', List.take_length, Nat.zero_add, Nat.le_refl, er_a, er_b, er_k, er_n, er_s, er_v, ep_a, ep_b, ep_hk, ep_hn, ep_hs, ep_wk, ep_wn, ep_ws, checkT_ne]
theorem s136_ok : CSpecOk E 136 s136 := by
  intro a h cs vals h' he hc
  unfold s136 at he
  split at he <;> simp only [Option.some.injEq, Prod.mk.injEq, reduceCtorEq] at he
  rename_i s rn rt xs kn kt ys
  obtain ⟨rfl, rfl, rfl⟩ := he
  simp only [allT, Bool.and_true, Bool.and_eq_true, decide_eq_true_eq] at hc
  obtain ⟨h1, h2⟩ := hc
  obtain ⟨rs, rfl⟩ := rows_ex h1
  obtain ⟨ks, rfl⟩ := isL_ex h2
  simp only [toRows_rows, decL_enc] at *
  exact f136 s rn rt rs kn kt ks
theorem idxT_drop (f : Nd → Bool) (l : List Nd) (k j : Nat) (hk : k < l.length) : idxT f (l.drop k) j = if f l[k] = true then (j : Int) else idxT f (l.drop (k + 1)) (j + 1) := by
  rw [List.drop_eq_getElem_cons hk, idxT]
theorem f142 (nl : Option Bool) (tt : Bool) (ks : List Nd) (hk : ks.length ≤ 9223372036854775807) : call E 142 [.c (.sl 3 nl tt (encL ks)), .fn 136 []] [] = some ([V.i (idxT (fun t => !okR t) ks 0)], []) := by
  refine call_of (E := E) (sh := sh) (ct := ctOf [(136, s136)]) (na := 2) (m := 0) (ctOf_cons s136_ok ctOf_nil) rfl rfl rfl rfl rfl rfl ?_
  rw [t142, encL_length]
  refine fd_post (ctOf_cons s136_ok ctOf_nil) (by kernel_rfl) rfl (list_post (p := p142) (ctOf_cons s136_ok ctOf_nil) (b := b142_0) ks.length (fun k (_ : Unit) => s142_0 nl tt (encL ks) ks.length k) (fun k _ => idxT (fun t => !okR t) (ks.drop k) k = idxT (fun t => !okR t) ks 0) _ ?_ ?_ 0 (Nat.zero_le _) () rfl)
  · intro k _ hk2 hi
    rw [idxT_drop _ _ _ _ hk2] at hi
    have e : p142.ld b142_0 (p142.lts b142_0 (s142_0 nl tt (encL ks) ks.length k)) = (if (!okR ks[k]) = true then some (R.x (x142_0x0 k)) else some (R.s (s142_0 nl tt (encL ks) ks.length ((k + 1 : Nat) : Int)))) := by
      rw [t142_0]
      simp only [nd_ok, nd_lab, nd_rows, nd_kids, encL_length, isL_enc, decL_enc, wrap_hd, hd_pos, ld_br, ld_chk', ld_leaf, fd_br, fd_chk', fd_leaf, decide_true, decide_eq_true_eq, if_true, Int.toNat_natCast, Int.natCast_nonneg, Int.ofNat_lt, Int.ofNat_le, Bool.false_eq_true, if_false, bne_iff_ne, beq_iff_eq, ne_eq, not_true_eq_false, not_false_eq_true, Bool.not_eq_true', decide_eq_false_iff_not, reduceCtorEq, rows_length, pcs_length, er_ok, er_ok', ep_ok, ep_ok', dr_er, dp_ep, isRows_rows, isPcs_pcs, toRows_rows, toPcs_pcs, rows_take, rows_drop, pcs_take, pcs_drop, rows_append, pcs_append, ints_length, isInts_ints, toInts_ints, ei_i, ei_ok, mk_headD, ints_take, ints_drop, ints_append, ints_snoc, ints_snoc', List.take_length, Nat.zero_add, Nat.le_refl, er_a, er_b, er_k, er_n, er_s, er_v, ep_a, ep_b, ep_hk, ep_hn, ep_hs, ep_wk, ep_wn, ep_ws, hk2, encL_getD hk2, Nd.eta, wrap_succ (show k < 9223372036854775807 by omega)]
    cases c : okR ks[k] with
    | true =>
      rw [c] at hi e
      exact .inl ⟨(), by simpa using hi, by rw [e]; rfl⟩
    | false =>
      rw [c] at hi e
      refine .inr ⟨x142_0x0 k, by simp, ?_, by rw [e]; rfl⟩
      rw [k142_0x0, fd_leaf, ← hi]; rfl
  · intro _ hi
    rw [List.drop_length] at hi
    refine ⟨x142_0x1 nl tt (encL ks) ks.length ks.length, by simp, ?_, ?_⟩
    · rw [k142_0x1, fd_leaf, ← hi]; rfl
    · rw [t142_0]; simp only [nd_ok, nd_lab, nd_rows, nd_kids, encL_length, isL_enc, decL_enc, wrap_hd, hd_pos, ld_br, ld_chk', ld_leaf, fd_br, fd_chk', fd_leaf, decide_true, decide_eq_true_eq, if_true, Int.toNat_natCast, Int.natCast_nonneg, Int.ofNat_lt, Int.ofNat_le, Bool.false_eq_true, if_false, bne_iff_ne, beq_iff_eq, ne_eq, not_true_eq_false, not_false_eq_true, Bool.not_eq_true', decide_eq_false_iff_not, reduceCtorEq, rows_length, pcs_length, er_ok, er_ok', ep_ok, ep_ok', dr_er, dp_ep, isRows_rows, isPcs_pcs, toRows_rows, toPcs_pcs, rows_take, rows_drop, pcs_take, pcs_drop, rows_append, pcs_append, ints_length, isInts_ints, toInts_ints, ei_i, ei_ok, mk_headD, ints_take, ints_drop, ints_append, ints_snoc, ints_snoc', List.take_length, Nat.zero_add, Nat.le_refl, er_a, er_b, er_k, er_n, er_s, er_v, ep_a, ep_b, ep_hk, ep_hn, ep_hs, ep_wk, ep_wn, ep_ws, Int.lt_irrefl]
theorem s142_ok : CSpecOk E 142 s142 := by
  intro a h cs vals h' he hc
  unfold s142 at he
  split at he <;> simp only [Option.some.injEq, Prod.mk.injEq, reduceCtorEq] at he
  rename_i nl tt ys
  obtain ⟨rfl, rfl, rfl⟩ := he
  simp only [allT, Bool.and_true, Bool.and_eq_true, decide_eq_true_eq] at hc
  obtain ⟨h1, h2⟩ := hc
  obtain ⟨ks, rfl⟩ := isL_ex h1
  rw [encL_length] at h2
  simp only [decL_enc] at *
  exact f142 nl tt ks h2
theorem idxT_all (l : List Nd) (j : Nat) : decide (0 ≤ idxT (fun t => !okR t) l j) = !l.all okR := by
  induction l generalizing j with
  | nil => rfl
  | cons t r ih =>
    rw [idxT, List.all_cons]
    cases c : okR t with
    | true => simpa using ih (j + 1)
    | false => simp
theorem f104 (nl : Option Bool) (tt : Bool) (ks : List Nd) (hk : ks.length ≤ 9223372036854775807) : call E 104 [.c (.sl 3 nl tt (encL ks)), .fn 136 []] [] = some ([V.b (!ks.all okR)], []) := by
  refine call_of (E := E) (sh := sh) (ct := ctOf [(142, s142)]) (na := 2) (m := 0) (ctOf_cons s142_ok ctOf_nil) rfl rfl rfl rfl rfl rfl ?_
  rw [t104]
  simp only [nd_ok, nd_lab, nd_rows, nd_kids, encL_length, isL_enc, decL_enc, wrap_hd, hd_pos, ld_br, ld_chk', ld_leaf, fd_br, fd_chk', fd_leaf, decide_true, decide_eq_true_eq, if_true, Int.toNat_natCast, Int.natCast_nonneg, Int.ofNat_lt, Int.ofNat_le, Bool.false_eq_true, if_false, bne_iff_ne, beq_iff_eq, ne_eq, not_true_eq_false, not_false_eq_true, Bool.not_eq_true', decide_eq_false_iff_not, reduceCtorEq, rows_length, pcs_length, er_ok, er_ok', ep_ok, ep_ok', dr_er, dp_ep, isRows_rows, isPcs_pcs, toRows_rows, toPcs_pcs, rows_take, rows_drop, pcs_take, pcs_drop, rows_append, pcs_append, ints_length, isInts_ints, toInts_ints, ei_i, ei_ok, mk_headD, ints_take, ints_drop, ints_append, ints_snoc, ints_snoc', List.take_length, Nat.zero_add, Nat.le_refl, er_a, er_b, er_k, er_n, er_s, er_v, ep_a, ep_b, ep_hk, ep_hn, ep_hs, ep_wk, ep_wn, ep_ws, hk, idxT_all]
theorem s104_ok : CSpecOk E 104 s104 := by
  intro a h cs vals h' he hc
  unfold s104 at he
  split at he <;> simp only [Option.some.injEq, Prod.mk.injEq, reduceCtorEq] at he
  rename_i nl tt ys
  obtain ⟨rfl, rfl, rfl⟩ := he
  simp only [allT, Bool.and_true, Bool.and_eq_true, decide_eq_true_eq] at hc
  obtain ⟨h1, h2⟩ := hc
  obtain ⟨ks, rfl⟩ := isL_ex h1
  rw [encL_length] at h2
  simp only [decL_enc] at *
  exact f104 nl tt ks h2
theorem f93 (nl : Option Bool) (tt : Bool) (ks : List Nd) (hk : ks.length ≤ 9223372036854775807) : call E 93 [.c (.sl 3 nl tt (encL ks))] [] = some ([V.b (ks.all okR)], []) := by
  refine call_of (E := E) (sh := sh) (ct := ctOf [(104, s104)]) (na := 1) (m := 0) (ctOf_cons s104_ok ctOf_nil) rfl rfl rfl rfl rfl rfl ?_
  rw [t93]
  simp only [nd_ok, nd_lab, nd_rows, nd_kids, encL_length, isL_enc, decL_enc, wrap_hd, hd_pos, ld_br, ld_chk', ld_leaf, fd_br, fd_chk', fd_leaf, decide_true, decide_eq_true_eq, if_true, Int.toNat_natCast, Int.natCast_nonneg, Int.ofNat_lt, Int.ofNat_le, Bool.false_eq_true, if_false, bne_iff_ne, beq_iff_eq, ne_eq, not_true_eq_false, not_false_eq_true, Bool.not_eq_true', decide_eq_false_iff_not, reduceCtorEq, rows_length, pcs_length, er_ok, er_ok', ep_ok, ep_ok', dr_er, dp_ep, isRows_rows, isPcs_pcs, toRows_rows, toPcs_pcs, rows_take, rows_drop, pcs_take, pcs_drop, rows_append, pcs_append, ints_length, isInts_ints, toInts_ints, ei_i, ei_ok, mk_headD, ints_take, ints_drop, ints_append, ints_snoc, ints_snoc', List.take_length, Nat.zero_add, Nat.le_refl, er_a, er_b, er_k, er_n, er_s, er_v, ep_a, ep_b, ep_hk, ep_hn, ep_hs, ep_wk, ep_wn, ep_ws, hk, Bool.not_not]
def s93 : CSpec := fun a h => match a, h with
  | [.c (.sl 3 nl tt ys)], [] => some ([isL ys, decide (ys.length ≤ 9223372036854775807)], [V.b ((decL ys).all okR)], [])
  | _, _ => none
theorem s93_ok : CSpecOk E 93 s93 := by
  intro a h cs vals h' he hc
  unfold s93 at he
  split at he <;> simp only [Option.some.injEq, Prod.mk.injEq, reduceCtorEq] at he
  rename_i nl tt ys
  obtain ⟨rfl, rfl, rfl⟩ := he
  simp only [allT, Bool.and_true, Bool.and_eq_true, decide_eq_true_eq] at hc
  obtain ⟨h1, h2⟩ := hc
  obtain ⟨ks, rfl⟩ := isL_ex h1
  rw [encL_length] at h2
  simp only [decL_enc] at *
  exact f93 nl tt ks h2
theorem f94 (nl : Option Bool) (tt : Bool) (ys : List (List C)) : call E 94 [.c (.sl 3 nl tt ys)] [] = some ([.fn 137 [.ptr 0 0 0 0]], [.box [.c (.sl 3 nl tt ys)]]) := by
  refine call_of (E := E) (sh := sh) (ct := ctOf []) (na := 1) (m := 0) ctOf_nil rfl rfl rfl rfl rfl rfl ?_
  rw [t94, fd_leaf]
def s94 : CSpec := fun a h => match a, h with
  | [.c (.sl 3 nl tt ys)], [] => some ([], [.fn 137 [.ptr 0 0 0 0]], [.box [.c (.sl 3 nl tt ys)]])
  | _, _ => none
theorem s94_ok : CSpecOk E 94 s94 := by
  intro a h cs vals h' he hc
  unfold s94 at he
  split at he <;> simp only [Option.some.injEq, Prod.mk.injEq, reduceCtorEq] at he
  obtain ⟨rfl, rfl, rfl⟩ := he
  exact f94 _ _ _
end Go.Proofs.YtgaabjmbnomimaaDoor
namespace Go.Proofs.YtgaabjmbnomimaaDoor
open Go Go.Ev
-- cse
set_option pp.deepTerms true
set_option pp.maxSteps 1000000
set_option pp.funBinderTypes true
set_option pp.coercions.types true
noncomputable abbrev p46 : Par := par E sh (ctOf [(93, s93), (94, s94), (98, s98)]) 46 2 0
abbrev s46_0 (nl4 : Option Bool) (t4 : Bool) (xs4 : List (List C)) (ys0 : List (List C)) (nh1 : Nat) (nlh2 : Option Bool) (th2 : Bool) (xsh2 : List (List C)) : Fr × Hp := ([(4, V.c (C.sl 3 nl4 t4 xs4)), (5, V.ptr 1 0 0 0), (17, V.fn 137 [V.ptr 2 0 0 0])], [O.mem 3 0 ys0, O.box [V.buf 0 0 0 nh1], O.box [V.c (C.sl 3 nlh2 th2 xsh2)]])
noncomputable abbrev b46_0 : Code := loopAt (codeOf E (46)) 0
abbrev g46_0 (nl4 : Option Bool) (t4 : Bool) (xs4 : List (List C)) (ys0 : List (List C)) (nh1 : Nat) : Fr × Hp := ([(4, V.c (C.sl 3 nl4 t4 xs4)), (5, V.ptr 1 0 0 0), (17, V.fn 137 [V.ptr 2 0 0 0])], [O.mem 3 0 ys0, O.box [V.buf 0 0 0 nh1], O.gone])
abbrev x46_0n (nl4 : Option Bool) (t4 : Bool) (xs4 : List (List C)) (ys0 : List (List C)) (nh1 : Nat) : Ex × Fr × Hp := (Ex.nrm, [(4, V.c (C.sl 3 nl4 t4 xs4)), (5, V.ptr 1 0 0 0), (17, V.fn 137 [V.ptr 2 0 0 0])], [O.mem 3 0 ys0, O.box [V.buf 0 0 0 nh1], O.gone])
theorem t46_0 (nl4 : Option Bool) (t4 : Bool) (xs4 : List (List C)) (ys0 : List (List C)) (nh1 : Nat) (p : List UInt8) (n0 : Option Bool) (t0 : Bool) (z0 : List (List C)) (n1 : Option Bool) (t1 : Bool) (z1 : List (List C)) (n2 : Option Bool) (t2 : Bool) (z2 : List (List C)) : p46.rts b46_0 ([V.agg [V.c (C.str p), V.c (C.sl 5 n0 t0 z0), V.c (C.sl 5 n1 t1 z1), V.c (C.sl 5 n2 t2 z2)]]) (g46_0 nl4 t4 xs4 ys0 nh1) = (Tr.chk true (Tr.chk true (Tr.chk true (Tr.chk true (Tr.chk (isRows z0) (Tr.chk (isRows z1) (Tr.chk (decide (z0.length ≤ 9223372036854775807)) (Tr.br (!decide (toRows z0 = toRows z1)) (Tr.chk true (Tr.chk true (Tr.chk (decide (nh1 + 1 < 4294967296)) (Tr.chk true (Tr.leaf (R.s (g46_0 nl4 t4 xs4 (List.take nh1 ys0 ++ [[C.str p, C.sl 5 n0 t0 z0, C.sl 5 n1 t1 z1]]) (nh1 + 1)))))))) (Tr.leaf (R.s (g46_0 nl4 t4 xs4 ys0 nh1))))))))))) := by kernel_rfl
theorem k46_0n (nl4 : Option Bool) (t4 : Bool) (xs4 : List (List C)) (ys0 : List (List C)) (nh1 : Nat) : p46.fkx 0 (x46_0n nl4 t4 xs4 ys0 nh1) = (Tr.leaf (R.out [V.c (C.sl 3 none false (List.take nh1 ys0))] [])) := by kernel_rfl
theorem t46 (s : List UInt8) (rn : Option Bool) (rt : Bool) (xs : List (List C)) (kn : Option Bool) (kt : Bool) (ys : List (List C)) (s2 : List UInt8) (rn2 : Option Bool) (rt2 : Bool) (xs2 : List (List C)) (kn2 : Option Bool) (kt2 : Bool) (ys2 : List (List C)) : p46.ft ([V.agg [V.c (C.str s), V.c (C.sl 5 rn rt xs), V.c (C.sl 3 kn kt ys)], V.agg [V.c (C.str s2), V.c (C.sl 5 rn2 rt2 xs2), V.c (C.sl 3 kn2 kt2 ys2)]]) ([]) = (Tr.chk (isL [[C.str s, C.sl 5 rn rt xs, C.sl 3 kn kt ys], [C.str s2, C.sl 5 rn2 rt2 xs2, C.sl 3 kn2 kt2 ys2]]) (Tr.chk true (Tr.br (!(decL [[C.str s, C.sl 5 rn rt xs, C.sl 3 kn kt ys], [C.str s2, C.sl 5 rn2 rt2 xs2, C.sl 3 kn2 kt2 ys2]]).all okR) (Tr.leaf (R.out [V.c (C.sl 3 none false [])] [])) (Tr.rs 0 (s46_0 (some true) true ([]) ([]) (0) (some false) true ([[C.str s, C.sl 5 rn rt xs, C.sl 3 kn kt ys], [C.str s2, C.sl 5 rn2 rt2 xs2, C.sl 3 kn2 kt2 ys2]])))))) := by kernel_rfl
end Go.Proofs.YtgaabjmbnomimaaDoor
namespace Go.Proofs.YtgaabjmbnomimaaDoor
open Go Go.Ev
theorem sidesF_len : ∀ (f : Nat) (x y z : List Ent), (sidesF f x y z).length ≤ f
  | 0, _, _, _ => Nat.le_refl _
  | f + 1, x, y, z => by
    by_cases h : leastP (leastP (leastP [] x) y) z = []
    · rw [sidesF_end f h]; exact Nat.zero_le _
    · rw [sidesF_step f rfl h, List.length_cons]; exact Nat.succ_le_succ (sidesF_len f _ _ _)
theorem encS_eq (s : Sd) : encS s = [V.agg [V.c (C.str s.p), V.c (C.sl 5 (rcN s.a) (rcT s.a) (rows s.a)), V.c (C.sl 5 (rcN s.b) (rcT s.b) (rows s.b)), V.c (C.sl 5 (rcN s.c) (rcT s.c) (rows s.c))]] := by
  rw [encS, VS, rowsV_eq, rowsV_eq, rowsV_eq]
def strs (l : List (List UInt8)) : List (List C) := l.map fun p => [C.str p]
def mergeP (a b c : Nd) : Nd × List (List UInt8) × Int := if okR a = true ∧ okR b = true ∧ okR c = true then (if badT a b c = [] then (mergeT a b c, [], 0) else (nd0, badT a b c, 19)) else (nd0, [], 2)
theorem right_len63 {l : List Row} (h : right l = true) : l.length ≤ 9223372036854775807 := by have := right_len4 h; omega
theorem entP_len (t : Nd) (h : (entL t.kids).length < 1000000000) : (entP t).length < 1000000000 := by
  rw [entP]; cases okR t
  · simp
  · exact h
def chgC (s : Sd) : List C := [C.str s.p, C.sl 5 (rcN s.a) (rcT s.a) (rows s.a), C.sl 5 (rcN s.b) (rcT s.b) (rows s.b)]
def chgs (X : List Sd) : List (List C) := X.map chgC
theorem chgs_length (X : List Sd) : (chgs X).length = X.length := List.length_map _
theorem chgs_take (X : List Sd) : (chgs X).take X.length = chgs X := by rw [← chgs_length X, List.take_length]
theorem chgs_snoc (X : List Sd) (s : Sd) : chgs X ++ [[C.str s.p, C.sl 5 (rcN s.a) (rcT s.a) (rows s.a), C.sl 5 (rcN s.b) (rcT s.b) (rows s.b)]] = chgs (X ++ [s]) := by simp [chgs, chgC]
def chgP (a b : Nd) : List Sd := if okR a = true ∧ okR b = true then chgT a b else []
theorem f46 (a b : Nd) (ha : (entL a.kids).length < 1000000000) (hb : (entL b.kids).length < 1000000000) :
    call E 46 [VT a, VT b] [] = some ([.c (.sl 3 none false (chgs (chgP a b)))], []) := by
  have hct : (ctOf [(93, s93), (94, s94), (98, s98)]).ok E := ctOf_cons s93_ok (ctOf_cons s94_ok (ctOf_cons s98_ok ctOf_nil))
  refine call_of (E := E) (sh := sh) (ct := ctOf [(93, s93), (94, s94), (98, s98)]) (na := 2) (m := 0) hct rfl rfl rfl rfl rfl rfl ?_
  show p46.fd (p46.ft [VT a, VT b] []) = some (.out _ _)
  rw [show p46.ft [VT a, VT b] [] = _ from t46 _ _ _ _ _ _ _ _ _ _ _ _ _ _]
  have hL : ([[C.str a.lab, C.sl 5 none false (rows a.rows), C.sl 3 none false (encL a.kids)], [C.str b.lab, C.sl 5 none false (rows b.rows), C.sl 3 none false (encL b.kids)]] : List (List C)) = encL [a, b] := by
    simp only [encL, Nd.enc_eq]
  rw [hL]
  simp only [nd_ok, nd_lab, nd_rows, nd_kids, encL_length, isL_enc, decL_enc, wrap_hd, hd_pos, ld_br, ld_chk', ld_leaf, fd_br, fd_chk', fd_leaf, decide_true, decide_eq_true_eq, if_true, Int.toNat_natCast, Int.natCast_nonneg, Int.ofNat_lt, Int.ofNat_le, Bool.false_eq_true, if_false, bne_iff_ne, beq_iff_eq, ne_eq, not_true_eq_false, not_false_eq_true, Bool.not_eq_true', decide_eq_false_iff_not, reduceCtorEq, rows_length, pcs_length, er_ok, er_ok', ep_ok, ep_ok', dr_er, dp_ep, isRows_rows, isPcs_pcs, toRows_rows, toPcs_pcs, rows_take, rows_drop, pcs_take, pcs_drop, rows_append, pcs_append, ints_length, isInts_ints, toInts_ints, ei_i, ei_ok, mk_headD, ints_take, ints_drop, ints_append, ints_snoc, ints_snoc', List.take_length, Nat.zero_add, Nat.le_refl, er_a, er_b, er_k, er_n, er_s, er_v, ep_a, ep_b, ep_hk, ep_hn, ep_hs, ep_wk, ep_wn, ep_ws, List.all_cons, List.all_nil, Bool.and_true]
  have hand : (okR a && okR b) = decide (okR a = true ∧ okR b = true) := by
    cases okR a <;> cases okR b <;> rfl
  by_cases hok : okR a = true ∧ okR b = true
  · rw [hand, decide_eq_true hok]
    rw [if_neg (by simp)]
    have hs := spC a b
    have hlen : (chgT a b).length < 4294967295 := by
      have h1 : (chgT a b).length ≤ (S2 a b).length := List.length_filter_le _ _
      have h2 : (S2 a b).length ≤ (entP a).length + (entP b).length + 0 + 1 := sidesF_len _ _ _ _
      have := entP_len a ha; have := entP_len b hb
      omega
    refine fd_rpost hct (by kernel_rfl) rfl (ranges_post (p := p46) hct (c := b46_0) (gi := 137) (caps := [.ptr 2 0 0 0]) (args := [.yl 1, .ptr 0 0 0 0])
      (h0 := [.box [.c (.sl 3 (some false) true (encL [a, b]))]]) (ids := [2]) (by kernel_rfl) (S2 a b) encS rfl (by kernel_rfl)
      (sq137_2 (some false) true a b)
      (fun u b' hw => ⟨_, _, f137_2 (some false) true a b ha hb u b' hw, rfl⟩)
      (fun (acc : List Sd) => g46_0 (some true) true [] (chgs acc) acc.length)
      (fun l acc => acc ++ l.filter (fun s => decide (s.a ≠ s.b)) = chgT a b ∧ ∀ s ∈ l, s ∈ S2 a b) _ ?_ ?_ [] rfl ⟨rfl, fun s h => h⟩)
    · rintro s l acc ⟨h1, h2⟩
      left
      have hsm := h2 s (by simp)
      have hra : right s.a = true := by rw [hs.a s hsm]; exact look_right (gd_entP a) _
      have la := right_len63 hra
      rw [encS_eq]
      by_cases hd : s.a = s.b
      · refine ⟨acc, ⟨?_, fun u hu => h2 u (by simp [hu])⟩, ?_⟩
        · rw [← h1]; simp [hd]
        · refine (congrArg _ (t46_0 (some true) true [] (chgs acc) acc.length s.p _ _ (rows s.a) _ _ (rows s.b) _ _ (rows s.c))).trans ?_
          have hd' : decide (s.a = s.b) = true := decide_eq_true hd
          simp only [rd_br, rd_chk', rd_leaf, if_true, isRows_rows, toRows_rows, rows_length, la, hd', decide_true, Bool.not_true, Bool.false_eq_true, if_false]
      · have hl1 : acc.length + 1 < 4294967296 := by
          have := congrArg List.length h1
          rw [List.filter_cons_of_pos (by simpa using hd)] at this
          simp only [List.length_append, List.length_cons] at this; omega
        refine ⟨acc ++ [s], ⟨?_, fun u hu => h2 u (by simp [hu])⟩, ?_⟩
        · rw [← h1, List.filter_cons_of_pos (by simpa using hd)]; simp
        · refine (congrArg _ (t46_0 (some true) true [] (chgs acc) acc.length s.p _ _ (rows s.a) _ _ (rows s.b) _ _ (rows s.c))).trans ?_
          have hd' : decide (s.a = s.b) = false := decide_eq_false hd
          simp only [rd_br, rd_chk', rd_leaf, if_true, isRows_rows, toRows_rows, rows_length, la, hd', hl1, decide_true, Bool.not_false, chgs_take, chgs_snoc, List.length_append, List.length_singleton]
    · rintro acc ⟨h1, _⟩
      rw [List.filter_nil, List.append_nil] at h1
      subst h1
      refine (congrArg _ (k46_0n (some true) true [] _ _)).trans ?_
      rw [fd_leaf, chgs_take, chgP, if_pos hok]
  · rw [hand, decide_eq_false hok]
    rw [if_pos (by simp), chgP, if_neg hok]
    rfl
end Go.Proofs.YtgaabjmbnomimaaDoor
namespace Go.Proofs.YtgaabjmbnomimaaDoor
open Go Go.Ev
/-- A change, as cells have it. -/
structure Cg where
  p : List UInt8
  n1 : Option Bool
  t1 : Bool
  a : List Row
  n2 : Option Bool
  t2 : Bool
  b : List Row
def Cg.enc (c : Cg) : List C := [.str c.p, .sl 5 c.n1 c.t1 (rows c.a), .sl 5 c.n2 c.t2 (rows c.b)]
def cgs (l : List Cg) : List (List C) := l.map Cg.enc
def dCg (x : List C) : Cg := ⟨(x.headD .pnil).st, (x.tail.headD .pnil).nl, (x.tail.headD .pnil).tt, toRows (x.tail.headD .pnil).xs, (x.tail.tail.headD .pnil).nl, (x.tail.tail.headD .pnil).tt, toRows (x.tail.tail.headD .pnil).xs⟩
def isCg (x : List C) : Bool := shOk [.str, .slx 5, .slx 5] x && isRows (x.tail.headD .pnil).xs && isRows (x.tail.tail.headD .pnil).xs
def isCgs (xs : List (List C)) : Bool := xs.all isCg
def toCgs (xs : List (List C)) : List Cg := xs.map dCg
theorem isCg_of {x : List C} (h : isCg x = true) : x = (dCg x).enc := by
  simp only [isCg, Bool.and_eq_true] at h
  obtain ⟨⟨h1, h2⟩, h3⟩ := h
  have h4 := shape_ok h1
  rw [Cg.enc, dCg]
  simp only
  rw [← rows_of h2, ← rows_of h3]
  exact h4.symm
theorem cgs_ex {xs : List (List C)} (h : isCgs xs = true) : ∃ l, xs = cgs l := by
  refine ⟨toCgs xs, ?_⟩
  unfold isCgs at h
  rw [List.all_eq_true] at h
  unfold cgs toCgs
  rw [List.map_map]
  conv => lhs; rw [← List.map_id xs]
  exact List.map_congr_left fun x hx => isCg_of (h x hx)
@[simp] theorem Cg.ok (c : Cg) : shOk [.str, .slx 5, .slx 5] c.enc = true := rfl
@[simp] theorem Cg.e_p (c : Cg) (d : C) : (c.enc.headD d).st = c.p := rfl
@[simp] theorem Cg.e_a (c : Cg) (d : C) : (c.enc.tail.headD d).xs = rows c.a := rfl
@[simp] theorem Cg.e_b (c : Cg) (d : C) : (c.enc.tail.tail.headD d).xs = rows c.b := rfl
@[simp] theorem Cg.e_n1 (c : Cg) (d : C) : (c.enc.tail.headD d).nl = c.n1 := rfl
@[simp] theorem Cg.e_n2 (c : Cg) (d : C) : (c.enc.tail.tail.headD d).nl = c.n2 := rfl
@[simp] theorem Cg.e_t1 (c : Cg) (d : C) : (c.enc.tail.headD d).tt = c.t1 := rfl
@[simp] theorem Cg.e_t2 (c : Cg) (d : C) : (c.enc.tail.tail.headD d).tt = c.t2 := rfl
theorem Cg.is (c : Cg) : isCg c.enc = true := by simp only [isCg, Cg.ok, Cg.e_a, Cg.e_b, isRows_rows, Bool.and_self]
@[simp] theorem isCgs_cgs (l : List Cg) : isCgs (cgs l) = true := by simp [isCgs, cgs, Cg.is]
theorem dCg_enc (c : Cg) : dCg c.enc = c := by simp only [dCg, Cg.e_p, Cg.e_a, Cg.e_b, Cg.e_n1, Cg.e_n2, Cg.e_t1, Cg.e_t2, toRows_rows]
@[simp] theorem toCgs_cgs (l : List Cg) : toCgs (cgs l) = l := by simp [toCgs, cgs, dCg_enc, Function.comp_def]
@[simp] theorem cgs_length (l : List Cg) : (cgs l).length = l.length := List.length_map _
theorem cgs_getD {l : List Cg} {i : Nat} (h : i < l.length) : (cgs l).getD i [] = l[i].enc := by simp [cgs, List.getD_eq_getElem?_getD, h]
/-- A change of sides, as cells have it. -/
def cgS (s : Sd) : Cg := ⟨s.p, rcN s.a, rcT s.a, s.a, rcN s.b, rcT s.b, s.b⟩
theorem chgs_cgs (X : List Sd) : chgs X = cgs (X.map cgS) := by simp [chgs, cgs, cgS, chgC, Cg.enc, Function.comp_def]
/-- Whether changes may be, behind a path. -/
def mayF : List UInt8 → List Cg → Bool
  | _, [] => true
  | last, c :: r => (isPath c.p && Op.bytesLess last c.p && right c.a && right c.b && !decide (c.a = c.b)) && mayF c.p r
def idxC (f : Cg → Bool) : List Cg → Nat → Int
  | [], _ => -1
  | c :: r, k => if f c = true then k else idxC f r (k + 1)
def otherB (t : Nd) (c : Cg) : Bool := !decide (getR t c.p = c.a)
def repF (t : Nd) (l : List Cg) : Nd := l.foldl (fun t c => (putP t c.p c.b).1) t
def repP (t : Nd) (l : List Cg) : Nd × Int := if okR t = true ∧ mayF [] l = true then (if l.any (otherB t) = true then (nd0, 19) else (repF t l, 0)) else (nd0, 2)
end Go.Proofs.YtgaabjmbnomimaaDoor
namespace Go.Proofs.YtgaabjmbnomimaaDoor
open Go Go.Ev
-- cse
set_option pp.deepTerms true
set_option pp.maxSteps 1000000
set_option pp.funBinderTypes true
set_option pp.coercions.types true
noncomputable abbrev p139 : Par := par E sh (ctOf []) 139 1 0
theorem t139 (p : List UInt8) : p139.ft ([V.c (C.str p)]) ([]) = (Tr.br (!p == []) (Tr.leaf (R.out [V.c (C.bool (decide ((↑p.length : Int) ≤ 24)))] [])) (Tr.leaf (R.out [V.c (C.bool false)] []))) := by kernel_rfl
def s139 : CSpec := fun a h => match a, h with
  | [.c (.str p)], [] => some ([], [V.b (isPath p)], [])
  | _, _ => none
noncomputable abbrev p99 : Par := par E sh (ctOf [(64, s64), (98, s98), (139, s139)]) 99 1 0
abbrev s99_0 (nl : Option Bool) (tt : Bool) (xs : List (List C)) (s3 : List UInt8) (i7 : Int) (i8 : Int) : Fr × Hp := ([(3, V.c (C.str s3)), (6, V.c (C.sl 3 nl tt xs)), (7, V.c (C.int IntKind.i64 i7)), (8, V.c (C.int IntKind.i64 i8))], [])
noncomputable abbrev b99_0 : Code := loopAt (codeOf E (99)) 0
abbrev x99_0x0 (sh0 : List UInt8) (nlh0 : Option Bool) (th0 : Bool) (xsh0 : List (List C)) (nlh0_1 : Option Bool) (th0_1 : Bool) (xsh0_1 : List (List C)) : Ex × Fr × Hp := (Ex.ret, [(2, V.c (C.bool false))], [O.box [V.c (C.str sh0), V.c (C.sl 5 nlh0 th0 xsh0), V.c (C.sl 5 nlh0_1 th0_1 xsh0_1)]])
abbrev x99_0x1 (nl : Option Bool) (tt : Bool) (xs : List (List C)) (s3 : List UInt8) (i7 : Int) (i8 : Int) : Ex × Fr × Hp := (Ex.exit 0, [(3, V.c (C.str s3)), (6, V.c (C.sl 3 nl tt xs)), (7, V.c (C.int IntKind.i64 i7)), (8, V.c (C.int IntKind.i64 i8)), (9, V.c (C.bool false))], [])
theorem t99_0 (nl : Option Bool) (tt : Bool) (xs : List (List C)) (s3 : List UInt8) (i7 : Int) (i8 : Int) : p99.lts b99_0 (s99_0 nl tt xs s3 i7 i8) = (Tr.br (decide (i8 < i7)) (Tr.chk (decide (0 ≤ i8)) (Tr.chk true (Tr.chk (decide (i8.toNat < xs.length)) (Tr.chk (shOk [Sk.str, Sk.slx 5, Sk.slx 5] (xs.getD i8.toNat [])) (Tr.br (!isPath ((xs.getD i8.toNat []).headD C.pnil).st) (Tr.leaf (R.x (x99_0x0 (((xs.getD i8.toNat []).headD C.pnil).st) (((xs.getD i8.toNat []).tail.headD C.pnil).nl) (((xs.getD i8.toNat []).tail.headD C.pnil).tt) (((xs.getD i8.toNat []).tail.headD C.pnil).xs) (((xs.getD i8.toNat []).tail.tail.headD C.pnil).nl) (((xs.getD i8.toNat []).tail.tail.headD C.pnil).tt) (((xs.getD i8.toNat []).tail.tail.headD C.pnil).xs)))) (Tr.br (Op.bytesLess ((xs.getD i8.toNat []).headD C.pnil).st s3 || ((xs.getD i8.toNat []).headD C.pnil).st == s3) (Tr.leaf (R.x (x99_0x0 (((xs.getD i8.toNat []).headD C.pnil).st) (((xs.getD i8.toNat []).tail.headD C.pnil).nl) (((xs.getD i8.toNat []).tail.headD C.pnil).tt) (((xs.getD i8.toNat []).tail.headD C.pnil).xs) (((xs.getD i8.toNat []).tail.tail.headD C.pnil).nl) (((xs.getD i8.toNat []).tail.tail.headD C.pnil).tt) (((xs.getD i8.toNat []).tail.tail.headD C.pnil).xs)))) (Tr.chk (isRows ((xs.getD i8.toNat []).tail.headD C.pnil).xs) (Tr.br (checkR (toRows ((xs.getD i8.toNat []).tail.headD C.pnil).xs) != 0) (Tr.leaf (R.x (x99_0x0 (((xs.getD i8.toNat []).headD C.pnil).st) (((xs.getD i8.toNat []).tail.headD C.pnil).nl) (((xs.getD i8.toNat []).tail.headD C.pnil).tt) (((xs.getD i8.toNat []).tail.headD C.pnil).xs) (((xs.getD i8.toNat []).tail.tail.headD C.pnil).nl) (((xs.getD i8.toNat []).tail.tail.headD C.pnil).tt) (((xs.getD i8.toNat []).tail.tail.headD C.pnil).xs)))) (Tr.chk (isRows ((xs.getD i8.toNat []).tail.tail.headD C.pnil).xs) (Tr.br (checkR (toRows ((xs.getD i8.toNat []).tail.tail.headD C.pnil).xs) != 0) (Tr.leaf (R.x (x99_0x0 (((xs.getD i8.toNat []).headD C.pnil).st) (((xs.getD i8.toNat []).tail.headD C.pnil).nl) (((xs.getD i8.toNat []).tail.headD C.pnil).tt) (((xs.getD i8.toNat []).tail.headD C.pnil).xs) (((xs.getD i8.toNat []).tail.tail.headD C.pnil).nl) (((xs.getD i8.toNat []).tail.tail.headD C.pnil).tt) (((xs.getD i8.toNat []).tail.tail.headD C.pnil).xs)))) (Tr.chk (isRows ((xs.getD i8.toNat []).tail.headD C.pnil).xs) (Tr.chk (isRows ((xs.getD i8.toNat []).tail.tail.headD C.pnil).xs) (Tr.chk (decide (((xs.getD i8.toNat []).tail.headD C.pnil).xs.length ≤ 9223372036854775807)) (Tr.br (decide (toRows ((xs.getD i8.toNat []).tail.headD C.pnil).xs = toRows ((xs.getD i8.toNat []).tail.tail.headD C.pnil).xs)) (Tr.leaf (R.x (x99_0x0 (((xs.getD i8.toNat []).headD C.pnil).st) (((xs.getD i8.toNat []).tail.headD C.pnil).nl) (((xs.getD i8.toNat []).tail.headD C.pnil).tt) (((xs.getD i8.toNat []).tail.headD C.pnil).xs) (((xs.getD i8.toNat []).tail.tail.headD C.pnil).nl) (((xs.getD i8.toNat []).tail.tail.headD C.pnil).tt) (((xs.getD i8.toNat []).tail.tail.headD C.pnil).xs)))) (Tr.leaf (R.s (s99_0 nl tt xs (((xs.getD i8.toNat []).headD C.pnil).st) i7 (IntKind.i64.wrap (i8 + 1))))))))))))))))))) (Tr.leaf (R.x (x99_0x1 nl tt xs s3 i7 i8)))) := by kernel_rfl
theorem k99_0x0 (sh0 : List UInt8) (nlh0 : Option Bool) (th0 : Bool) (xsh0 : List (List C)) (nlh0_1 : Option Bool) (th0_1 : Bool) (xsh0_1 : List (List C)) : p99.fkx 0 (x99_0x0 sh0 nlh0 th0 xsh0 nlh0_1 th0_1 xsh0_1) = (Tr.leaf (R.out [V.c (C.bool false)] [])) := by kernel_rfl
theorem k99_0x1 (nl : Option Bool) (tt : Bool) (xs : List (List C)) (s3 : List UInt8) (i7 : Int) (i8 : Int) : p99.fkx 0 (x99_0x1 nl tt xs s3 i7 i8) = (Tr.leaf (R.out [V.c (C.bool true)] [])) := by kernel_rfl
theorem t99 (nl : Option Bool) (tt : Bool) (xs : List (List C)) : p99.ft ([V.c (C.sl 3 nl tt xs)]) ([]) = (Tr.ls 0 (s99_0 nl tt xs ([]) ((↑xs.length : Int)) (0))) := by kernel_rfl
def s99 : CSpec := fun a h => match a, h with
  | [.c (.sl 3 nl tt xs)], [] => some ([isCgs xs, decide (xs.length ≤ 9223372036854775807)], [V.b (mayF [] (toCgs xs))], [])
  | _, _ => none
noncomputable abbrev p100 : Par := par E sh (ctOf [(27, s27), (98, s98)]) 100 2 1
theorem t100 (p : List UInt8) (n1 : Option Bool) (t1 : Bool) (us : List (List C)) (n2 : Option Bool) (t2 : Bool) (vs : List (List C)) (s : List UInt8) (rn : Option Bool) (rt : Bool) (xs : List (List C)) (kn : Option Bool) (kt : Bool) (ys : List (List C)) : p100.ft ([V.agg [V.c (C.str p), V.c (C.sl 5 n1 t1 us), V.c (C.sl 5 n2 t2 vs)], V.ptr 0 0 0 0]) ([O.box [V.c (C.str s), V.c (C.sl 5 rn rt xs), V.c (C.sl 3 kn kt ys)]]) = (Tr.chk (isRows xs) (Tr.chk (isL ys) (Tr.chk (isRows (rows (getR (Nd.node s (toRows xs) (decL ys)) p))) (Tr.chk (isRows us) (Tr.chk (decide ((rows (getR (Nd.node s (toRows xs) (decL ys)) p)).length ≤ 9223372036854775807)) (Tr.leaf (R.out [V.c (C.bool !decide (toRows (rows (getR (Nd.node s (toRows xs) (decL ys)) p)) = toRows us))] [O.box [V.c (C.str s), V.c (C.sl 5 rn rt xs), V.c (C.sl 3 kn kt ys)]]))))))) := by kernel_rfl
def s100 : CSpec := fun a h => match a, h with
  | [.agg [.c (.str p), .c (.sl 5 n1 t1 us), .c (.sl 5 n2 t2 vs)], .ptr 0 0 0 0], [.box [.c (.str s), .c (.sl 5 rn rt xs), .c (.sl 3 kn kt ys)]] => some ([isRows us, isRows xs, isL ys], [V.b (!decide (getR (.node s (toRows xs) (decL ys)) p = toRows us))], [.box [.c (.str s), .c (.sl 5 rn rt xs), .c (.sl 3 kn kt ys)]])
  | _, _ => none
noncomputable abbrev p140 : Par := par E sh (ctOf [(100, s100)]) 140 2 1
abbrev s140_0 (nl : Option Bool) (tt : Bool) (zs : List (List C)) (s : List UInt8) (rn : Option Bool) (rt : Bool) (xs : List (List C)) (kn : Option Bool) (kt : Bool) (ys : List (List C)) (i7 : Int) (i8 : Int) : Fr × Hp := ([(0, V.c (C.sl 3 nl tt zs)), (1, V.fn 100 [V.ptr 0 0 0 0]), (7, V.c (C.int IntKind.i64 i7)), (8, V.c (C.int IntKind.i64 i8))], [O.box [V.c (C.str s), V.c (C.sl 5 rn rt xs), V.c (C.sl 3 kn kt ys)]])
noncomputable abbrev b140_0 : Code := loopAt (codeOf E (140)) 0
abbrev x140_0x0 (s : List UInt8) (rn : Option Bool) (rt : Bool) (xs : List (List C)) (kn : Option Bool) (kt : Bool) (ys : List (List C)) (i8 : Int) : Ex × Fr × Hp := (Ex.ret, [(4, V.c (C.int IntKind.i64 i8))], [O.box [V.c (C.str s), V.c (C.sl 5 rn rt xs), V.c (C.sl 3 kn kt ys)]])
abbrev x140_0x1 (nl : Option Bool) (tt : Bool) (zs : List (List C)) (s : List UInt8) (rn : Option Bool) (rt : Bool) (xs : List (List C)) (kn : Option Bool) (kt : Bool) (ys : List (List C)) (i7 : Int) (i8 : Int) : Ex × Fr × Hp := (Ex.exit 0, [(0, V.c (C.sl 3 nl tt zs)), (1, V.fn 100 [V.ptr 0 0 0 0]), (7, V.c (C.int IntKind.i64 i7)), (8, V.c (C.int IntKind.i64 i8)), (9, V.c (C.bool false))], [O.box [V.c (C.str s), V.c (C.sl 5 rn rt xs), V.c (C.sl 3 kn kt ys)]])
theorem t140_0 (nl : Option Bool) (tt : Bool) (zs : List (List C)) (s : List UInt8) (rn : Option Bool) (rt : Bool) (xs : List (List C)) (kn : Option Bool) (kt : Bool) (ys : List (List C)) (i7 : Int) (i8 : Int) : p140.lts b140_0 (s140_0 nl tt zs s rn rt xs kn kt ys i7 i8) = (Tr.br (decide (i8 < i7)) (Tr.chk (decide (0 ≤ i8)) (Tr.chk true (Tr.chk (decide (i8.toNat < zs.length)) (Tr.chk (shOk [Sk.str, Sk.slx 5, Sk.slx 5] (zs.getD i8.toNat [])) (Tr.chk (isRows ((zs.getD i8.toNat []).tail.headD C.pnil).xs) (Tr.chk (isRows xs) (Tr.chk (isL ys) (Tr.br (!decide (getR (Nd.node s (toRows xs) (decL ys)) ((zs.getD i8.toNat []).headD C.pnil).st = toRows ((zs.getD i8.toNat []).tail.headD C.pnil).xs)) (Tr.leaf (R.x (x140_0x0 s rn rt xs kn kt ys i8))) (Tr.leaf (R.s (s140_0 nl tt zs s rn rt xs kn kt ys i7 (IntKind.i64.wrap (i8 + 1))))))))))))) (Tr.leaf (R.x (x140_0x1 nl tt zs s rn rt xs kn kt ys i7 i8)))) := by kernel_rfl
theorem k140_0x0 (s : List UInt8) (rn : Option Bool) (rt : Bool) (xs : List (List C)) (kn : Option Bool) (kt : Bool) (ys : List (List C)) (i8 : Int) : p140.fkx 0 (x140_0x0 s rn rt xs kn kt ys i8) = (Tr.leaf (R.out [V.c (C.int IntKind.i64 i8)] [O.box [V.c (C.str s), V.c (C.sl 5 rn rt xs), V.c (C.sl 3 kn kt ys)]])) := by kernel_rfl
theorem k140_0x1 (nl : Option Bool) (tt : Bool) (zs : List (List C)) (s : List UInt8) (rn : Option Bool) (rt : Bool) (xs : List (List C)) (kn : Option Bool) (kt : Bool) (ys : List (List C)) (i7 : Int) (i8 : Int) : p140.fkx 0 (x140_0x1 nl tt zs s rn rt xs kn kt ys i7 i8) = (Tr.leaf (R.out [V.c (C.int IntKind.i64 (-1))] [O.box [V.c (C.str s), V.c (C.sl 5 rn rt xs), V.c (C.sl 3 kn kt ys)]])) := by kernel_rfl
theorem t140 (nl : Option Bool) (tt : Bool) (zs : List (List C)) (s : List UInt8) (rn : Option Bool) (rt : Bool) (xs : List (List C)) (kn : Option Bool) (kt : Bool) (ys : List (List C)) : p140.ft ([V.c (C.sl 3 nl tt zs), V.fn 100 [V.ptr 0 0 0 0]]) ([O.box [V.c (C.str s), V.c (C.sl 5 rn rt xs), V.c (C.sl 3 kn kt ys)]]) = (Tr.ls 0 (s140_0 nl tt zs s rn rt xs kn kt ys ((↑zs.length : Int)) (0))) := by kernel_rfl
def s140 : CSpec := fun a h => match a, h with
  | [.c (.sl 3 nl tt zs), .fn 100 [.ptr 0 0 0 0]], [.box [.c (.str s), .c (.sl 5 rn rt xs), .c (.sl 3 kn kt ys)]] => some ([isCgs zs, isRows xs, isL ys, decide (zs.length ≤ 9223372036854775807)], [V.i (idxC (otherB (.node s (toRows xs) (decL ys))) (toCgs zs) 0)], [.box [.c (.str s), .c (.sl 5 rn rt xs), .c (.sl 3 kn kt ys)]])
  | _, _ => none
noncomputable abbrev p101 : Par := par E sh (ctOf [(140, s140)]) 101 2 1
theorem t101 (nl : Option Bool) (tt : Bool) (zs : List (List C)) (s : List UInt8) (rn : Option Bool) (rt : Bool) (xs : List (List C)) (kn : Option Bool) (kt : Bool) (ys : List (List C)) : p101.ft ([V.c (C.sl 3 nl tt zs), V.fn 100 [V.ptr 0 0 0 0]]) ([O.box [V.c (C.str s), V.c (C.sl 5 rn rt xs), V.c (C.sl 3 kn kt ys)]]) = (Tr.chk (isCgs zs) (Tr.chk (isRows xs) (Tr.chk (isL ys) (Tr.chk (decide (zs.length ≤ 9223372036854775807)) (Tr.leaf (R.out [V.c (C.bool (decide (0 ≤ idxC (otherB (Nd.node s (toRows xs) (decL ys))) (toCgs zs) 0)))] [O.box [V.c (C.str s), V.c (C.sl 5 rn rt xs), V.c (C.sl 3 kn kt ys)]])))))) := by kernel_rfl
def s101 : CSpec := fun a h => match a, h with
  | [.c (.sl 3 nl tt zs), .fn 100 [.ptr 0 0 0 0]], [.box [.c (.str s), .c (.sl 5 rn rt xs), .c (.sl 3 kn kt ys)]] => some ([isCgs zs, isRows xs, isL ys, decide (zs.length ≤ 9223372036854775807)], [V.b ((toCgs zs).any (otherB (.node s (toRows xs) (decL ys))))], [.box [.c (.str s), .c (.sl 5 rn rt xs), .c (.sl 3 kn kt ys)]])
  | _, _ => none
noncomputable abbrev p47 : Par := par E sh (ctOf [(25, s25), (93, s93), (99, s99), (101, s101)]) 47 2 0
abbrev s47_0 (s : List UInt8) (rn : Option Bool) (rt : Bool) (xs : List (List C)) (kn : Option Bool) (kt : Bool) (ys : List (List C)) (nl : Option Bool) (tt : Bool) (zs : List (List C)) (i25 : Int) (i26 : Int) (sh1 : List UInt8) (nlh1 : Option Bool) (th1 : Bool) (xsh1 : List (List C)) (nlh1_1 : Option Bool) (th1_1 : Bool) (xsh1_1 : List (List C)) : Fr × Hp := ([(2, V.ptr 0 0 0 0), (4, V.ptr 1 0 0 0), (24, V.c (C.sl 3 nl tt zs)), (25, V.c (C.int IntKind.i64 i25)), (26, V.c (C.int IntKind.i64 i26))], [O.box [V.c (C.str s), V.c (C.sl 5 rn rt xs), V.c (C.sl 3 kn kt ys)], O.box [V.c (C.str sh1), V.c (C.sl 5 nlh1 th1 xsh1), V.c (C.sl 3 nlh1_1 th1_1 xsh1_1)]])
noncomputable abbrev b47_0 : Code := loopAt (codeOf E (47)) 0
abbrev x47_0x0 (s : List UInt8) (rn : Option Bool) (rt : Bool) (xs : List (List C)) (kn : Option Bool) (kt : Bool) (ys : List (List C)) (nl : Option Bool) (tt : Bool) (zs : List (List C)) (i25 : Int) (i26 : Int) (sh1 : List UInt8) (nlh1 : Option Bool) (th1 : Bool) (xsh1 : List (List C)) (nlh1_1 : Option Bool) (th1_1 : Bool) (xsh1_1 : List (List C)) : Ex × Fr × Hp := (Ex.exit 0, [(2, V.ptr 0 0 0 0), (4, V.ptr 1 0 0 0), (24, V.c (C.sl 3 nl tt zs)), (25, V.c (C.int IntKind.i64 i25)), (26, V.c (C.int IntKind.i64 i26)), (27, V.c (C.bool false))], [O.box [V.c (C.str s), V.c (C.sl 5 rn rt xs), V.c (C.sl 3 kn kt ys)], O.box [V.c (C.str sh1), V.c (C.sl 5 nlh1 th1 xsh1), V.c (C.sl 3 nlh1_1 th1_1 xsh1_1)]])
theorem t47_0 (s : List UInt8) (rn : Option Bool) (rt : Bool) (xs : List (List C)) (kn : Option Bool) (kt : Bool) (ys : List (List C)) (nl : Option Bool) (tt : Bool) (zs : List (List C)) (i25 : Int) (i26 : Int) (sh1 : List UInt8) (nlh1 : Option Bool) (th1 : Bool) (xsh1 : List (List C)) (nlh1_1 : Option Bool) (th1_1 : Bool) (xsh1_1 : List (List C)) : p47.lts b47_0 (s47_0 s rn rt xs kn kt ys nl tt zs i25 i26 sh1 nlh1 th1 xsh1 nlh1_1 th1_1 xsh1_1) = (Tr.br (decide (i26 < i25)) (Tr.chk (decide (0 ≤ i26)) (Tr.chk true (Tr.chk (decide (i26.toNat < zs.length)) (Tr.chk (shOk [Sk.str, Sk.slx 5, Sk.slx 5] (zs.getD i26.toNat [])) (Tr.chk (isRows xs) (Tr.chk (isL ys) (Tr.chk (isRows ((zs.getD i26.toNat []).tail.tail.headD C.pnil).xs) (Tr.chk (decide (((zs.getD i26.toNat []).tail.tail.headD C.pnil).nl ≠ some true ∨ ((zs.getD i26.toNat []).tail.tail.headD C.pnil).xs = [])) (Tr.leaf (R.s (s47_0 ((putP (Nd.node s (toRows xs) (decL ys)) ((zs.getD i26.toNat []).headD C.pnil).st (toRows ((zs.getD i26.toNat []).tail.tail.headD C.pnil).xs)).fst.lab) (none) false (rows (putP (Nd.node s (toRows xs) (decL ys)) ((zs.getD i26.toNat []).headD C.pnil).st (toRows ((zs.getD i26.toNat []).tail.tail.headD C.pnil).xs)).fst.rows) (none) false (encL (putP (Nd.node s (toRows xs) (decL ys)) ((zs.getD i26.toNat []).headD C.pnil).st (toRows ((zs.getD i26.toNat []).tail.tail.headD C.pnil).xs)).fst.kids) nl tt zs i25 (IntKind.i64.wrap (i26 + 1)) sh1 nlh1 th1 xsh1 nlh1_1 th1_1 xsh1_1))))))))))) (Tr.leaf (R.x (x47_0x0 s rn rt xs kn kt ys nl tt zs i25 i26 sh1 nlh1 th1 xsh1 nlh1_1 th1_1 xsh1_1)))) := by kernel_rfl
theorem k47_0x0 (s : List UInt8) (rn : Option Bool) (rt : Bool) (xs : List (List C)) (kn : Option Bool) (kt : Bool) (ys : List (List C)) (nl : Option Bool) (tt : Bool) (zs : List (List C)) (i25 : Int) (i26 : Int) (sh1 : List UInt8) (nlh1 : Option Bool) (th1 : Bool) (xsh1 : List (List C)) (nlh1_1 : Option Bool) (th1_1 : Bool) (xsh1_1 : List (List C)) : p47.fkx 0 (x47_0x0 s rn rt xs kn kt ys nl tt zs i25 i26 sh1 nlh1 th1 xsh1 nlh1_1 th1_1 xsh1_1) = (Tr.leaf (R.out [V.agg [V.c (C.str s), V.c (C.sl 5 none false xs), V.c (C.sl 3 none false ys)], V.c (C.int IntKind.i64 0)] [])) := by kernel_rfl
theorem t47 (s : List UInt8) (rn : Option Bool) (rt : Bool) (xs : List (List C)) (kn : Option Bool) (kt : Bool) (ys : List (List C)) (nl : Option Bool) (tt : Bool) (zs : List (List C)) : p47.ft ([V.agg [V.c (C.str s), V.c (C.sl 5 rn rt xs), V.c (C.sl 3 kn kt ys)], V.c (C.sl 3 nl tt zs)]) ([]) = (Tr.chk (isL [[C.str s, C.sl 5 rn rt xs, C.sl 3 kn kt ys]]) (Tr.chk true (Tr.br (!(decL [[C.str s, C.sl 5 rn rt xs, C.sl 3 kn kt ys]]).all okR) (Tr.leaf (R.out [V.agg [V.c (C.str []), V.c (C.sl 5 none false []), V.c (C.sl 3 none false [])], V.c (C.int IntKind.i64 2)] [])) (Tr.chk (isCgs zs) (Tr.chk (decide (zs.length ≤ 9223372036854775807)) (Tr.br (!mayF [] (toCgs zs)) (Tr.leaf (R.out [V.agg [V.c (C.str []), V.c (C.sl 5 none false []), V.c (C.sl 3 none false [])], V.c (C.int IntKind.i64 2)] [])) (Tr.chk (isCgs zs) (Tr.chk (isRows xs) (Tr.chk (isL ys) (Tr.chk (decide (zs.length ≤ 9223372036854775807)) (Tr.br ((toCgs zs).any (otherB (Nd.node s (toRows xs) (decL ys)))) (Tr.leaf (R.out [V.agg [V.c (C.str []), V.c (C.sl 5 none false []), V.c (C.sl 3 none false [])], V.c (C.int IntKind.i64 19)] [])) (Tr.ls 0 (s47_0 s rn rt xs kn kt ys nl tt zs ((↑zs.length : Int)) (0) ([]) (some true) true ([]) (some true) true ([])))))))))))))) := by kernel_rfl
end Go.Proofs.YtgaabjmbnomimaaDoor
