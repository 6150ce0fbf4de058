/-
  Chapter 02 (span): values, rows, pieces as cells; what the first functions compute, in plain Lean.
-/
import Derived.Test.YtbilmkcdhodenaaDoorARunD
import Derived.Test.YtbilmkcdhodenaaDoorEnvA
import Derived.Test.YtbilmkcdhodenaaDoorEvW
set_option linter.all false
set_option linter.unusedSimpArgs false
set_option linter.unusedVariables false
namespace Go.Proofs.YtbilmkcdhodenaaDoor
open Go Go.Ev

/-- A value: kind, number, text. -/
structure Val where
  k : Int
  n : Int
  s : List UInt8
  deriving DecidableEq, Inhabited
structure Row where
  a : Int
  b : Int
  v : Val
  deriving DecidableEq, Inhabited
structure Piece where
  a : Int
  b : Int
  h : Val
  w : Val
  deriving DecidableEq, Inhabited
def Val.none : Val := ⟨0, 0, []⟩

def ev (v : Val) : List C := [.int .i64 v.k, .int .i64 v.n, .str v.s]
def er (r : Row) : List C := [.int .i64 r.a, .int .i64 r.b, .int .i64 r.v.k, .int .i64 r.v.n, .str r.v.s]
def ep (p : Piece) : List C := [.int .i64 p.a, .int .i64 p.b, .int .i64 p.h.k, .int .i64 p.h.n, .str p.h.s, .int .i64 p.w.k, .int .i64 p.w.n, .str p.w.s]
@[reducible] def VV (v : Val) : V := .agg [V.i v.k, V.i v.n, .c (.str v.s)]
@[reducible] def VR (r : Row) : V := .agg [V.i r.a, V.i r.b, V.i r.v.k, V.i r.v.n, .c (.str r.v.s)]
@[reducible] def VP (p : Piece) : V := .agg [V.i p.a, V.i p.b, V.i p.h.k, V.i p.h.n, .c (.str p.h.s), V.i p.w.k, V.i p.w.n, .c (.str p.w.s)]
def skR : List Sk := [.int .i64, .int .i64, .int .i64, .int .i64, .str]
def skP : List Sk := [.int .i64, .int .i64, .int .i64, .int .i64, .str, .int .i64, .int .i64, .str]
def dr (c : List C) : Row := ⟨(c.headD .pnil).i, (c.tail.headD .pnil).i, ⟨(c.tail.tail.headD .pnil).i, (c.tail.tail.tail.headD .pnil).i, (c.tail.tail.tail.tail.headD .pnil).st⟩⟩
def dp (c : List C) : Piece := ⟨(c.headD .pnil).i, (c.tail.headD .pnil).i, ⟨(c.tail.tail.headD .pnil).i, (c.tail.tail.tail.headD .pnil).i, (c.tail.tail.tail.tail.headD .pnil).st⟩,
  ⟨(c.tail.tail.tail.tail.tail.headD .pnil).i, (c.tail.tail.tail.tail.tail.tail.headD .pnil).i, (c.tail.tail.tail.tail.tail.tail.tail.headD .pnil).st⟩⟩
def rows (l : List Row) : List (List C) := l.map er
def pcs (l : List Piece) : List (List C) := l.map ep
def toRows (xs : List (List C)) : List Row := xs.map dr
def toPcs (xs : List (List C)) : List Piece := xs.map dp
def isRows (xs : List (List C)) : Bool := xs.all fun c => shOk skR c
def isPcs (xs : List (List C)) : Bool := xs.all fun c => shOk skP c
theorem er_of {c : List C} (h : shOk skR c = true) : c = er (dr c) := by
  conv => lhs; rw [← shape_ok h]
  rfl
theorem ep_of {c : List C} (h : shOk skP c = true) : c = ep (dp c) := by
  conv => lhs; rw [← shape_ok h]
  rfl
theorem rows_of {xs : List (List C)} (h : isRows xs = true) : xs = rows (toRows xs) := by
  induction xs with
  | nil => rfl
  | cons c r ih =>
    simp only [isRows, List.all_cons, Bool.and_eq_true] at h
    have h2 := ih h.2
    unfold rows toRows at h2 ⊢
    simp only [List.map_cons]
    rw [← h2, ← er_of h.1]
theorem pcs_of {xs : List (List C)} (h : isPcs xs = true) : xs = pcs (toPcs xs) := by
  induction xs with
  | nil => rfl
  | cons c r ih =>
    simp only [isPcs, List.all_cons, Bool.and_eq_true] at h
    have h2 := ih h.2
    unfold pcs toPcs at h2 ⊢
    simp only [List.map_cons]
    rw [← h2, ← ep_of h.1]
@[simp] theorem dr_er (r : Row) : dr (er r) = r := rfl
@[simp] theorem dp_ep (p : Piece) : dp (ep p) = p := rfl
@[simp] theorem er_ok (r : Row) : shOk skR (er r) = true := rfl
@[simp] theorem ep_ok (p : Piece) : shOk skP (ep p) = true := rfl
@[simp] theorem toRows_rows (l : List Row) : toRows (rows l) = l := by simp [toRows, rows, Function.comp_def]
@[simp] theorem toPcs_pcs (l : List Piece) : toPcs (pcs l) = l := by simp [toPcs, pcs, Function.comp_def]
@[simp] theorem isRows_rows (l : List Row) : isRows (rows l) = true := by simp [isRows, rows]
@[simp] theorem isPcs_pcs (l : List Piece) : isPcs (pcs l) = true := by simp [isPcs, pcs]
@[simp] theorem rows_length (l : List Row) : (rows l).length = l.length := by simp [rows]
@[simp] theorem pcs_length (l : List Piece) : (pcs l).length = l.length := by simp [pcs]
theorem rows_getD {l : List Row} {i : Nat} (h : i < l.length) : (rows l).getD i [] = er l[i] := by simp [rows, List.getD_eq_getElem?_getD, h]
theorem pcs_getD {l : List Piece} {i : Nat} (h : i < l.length) : (pcs l).getD i [] = ep l[i] := by simp [pcs, List.getD_eq_getElem?_getD, h]
@[simp] theorem rows_take (l : List Row) (n : Nat) : (rows l).take n = rows (l.take n) := by simp [rows, List.map_take]
@[simp] theorem rows_drop (l : List Row) (n : Nat) : (rows l).drop n = rows (l.drop n) := by simp [rows, List.map_drop]
@[simp] theorem rows_append (l m : List Row) : rows l ++ rows m = rows (l ++ m) := by simp [rows]
@[simp] theorem pcs_take (l : List Piece) (n : Nat) : (pcs l).take n = pcs (l.take n) := by simp [pcs, List.map_take]
@[simp] theorem pcs_drop (l : List Piece) (n : Nat) : (pcs l).drop n = pcs (l.drop n) := by simp [pcs, List.map_drop]
@[simp] theorem pcs_append (l m : List Piece) : pcs l ++ pcs m = pcs (l ++ m) := by simp [pcs]

/-! ## what the functions compute -/
/-- The text has 40 bytes at most and is UTF-8. -/
def checkV (v : Val) : Int := if v.k = 1 then (if v.s = [] then 0 else 2) else if v.k = 2 then (if v.n = 0 ∧ v.s.length ≤ 40 ∧ 0 ≤ runesL v.s then 0 else 2) else 2
def isSpan (a b : Int) : Bool := decide (0 ≤ a) && decide (a < b) && decide (b ≤ 1099511627776)
def okFrom : Option Row → List Row → Bool
  | _, [] => true
  | p, x :: r => isSpan x.a x.b && decide (checkV x.v = 0) && (match p with | none => true | some w => !(decide (x.a < w.b) || (decide (x.a = w.b) && decide (x.v = w.v)))) && okFrom (some x) r
def right (l : List Row) : Bool := decide (l.length ≤ 64) && okFrom none l
def checkR (l : List Row) : Int := if right l = true then 0 else 2
/-- What rows have at a time. -/
def had : List Row → Int → Val
  | [], _ => Val.none
  | x :: r, t => if x.b ≤ t then had r t else if x.a ≤ t then x.v else Val.none
/-! ## what rows have at a time -/
/-- The binary search's steps: between lo and hi, with so much fuel. -/
def bs (l : List Row) (t : Int) : Nat → Nat → Nat → Nat
  | 0, lo, _ => lo
  | f + 1, lo, hi => if lo < hi then (if (l.getD ((lo + hi) / 2) default).b ≤ t then bs l t f ((lo + hi) / 2 + 1) hi else bs l t f lo ((lo + hi) / 2)) else lo
def bsF (l : List Row) (t : Int) : Nat := bs l t l.length 0 l.length
def atR (l : List Row) (t : Int) : Val := if h : bsF l t < l.length then (if l[bsF l t].a ≤ t then l[bsF l t].v else Val.none) else Val.none
/-- What At tells. -/
def atP (l : List Row) (t : Int) : Val := if right l = true then atR l t else Val.none
end Go.Proofs.YtbilmkcdhodenaaDoor
