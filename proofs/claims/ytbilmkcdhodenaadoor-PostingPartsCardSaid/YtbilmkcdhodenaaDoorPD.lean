/-
  Chapter 13 (posting), plain: postings as cells; what the functions compute.
-/
import Derived.Test.YtbilmkcdhodenaaDoorAD
set_option linter.all false
set_option linter.unusedSimpArgs false
set_option linter.unusedVariables false
namespace Go.Proofs.YtbilmkcdhodenaaDoor
open Go Go.Ev

/-- A posting: its path, its commit, its kind. -/
structure Pst where
  p : List UInt8
  c : Int
  k : Int
  deriving DecidableEq, Inhabited
def eo (x : Pst) : List C := [.str x.p, .int .i64 x.c, .int .i64 x.k]
@[reducible] def VO (x : Pst) : V := .agg [.c (.str x.p), V.i x.c, V.i x.k]
def skO : List Sk := [.str, .int .i64, .int .i64]
def dO (c : List C) : Pst := ⟨(c.headD .pnil).st, (c.tail.headD .pnil).i, (c.tail.tail.headD .pnil).i⟩
def psts (l : List Pst) : List (List C) := l.map eo
def toPsts (xs : List (List C)) : List Pst := xs.map dO
def isPsts (xs : List (List C)) : Bool := xs.all fun c => shOk skO c
theorem eo_of {c : List C} (h : shOk skO c = true) : c = eo (dO c) := by
  conv => lhs; rw [← shape_ok h]
  rfl
theorem psts_of {xs : List (List C)} (h : isPsts xs = true) : xs = psts (toPsts xs) := by
  induction xs with
  | nil => rfl
  | cons c r ih =>
    simp only [isPsts, List.all_cons, Bool.and_eq_true] at h
    have h2 := ih h.2
    unfold psts toPsts at h2 ⊢
    simp only [List.map_cons]
    rw [← h2, ← eo_of h.1]
@[simp] theorem dO_eo (r : Pst) : dO (eo r) = r := rfl
@[simp] theorem eo_ok (r : Pst) : shOk skO (eo r) = true := rfl
@[simp] theorem eo_ok' (r : Pst) : shOk [Sk.str, Sk.int .i64, Sk.int .i64] (eo r) = true := rfl
@[simp] theorem toPsts_psts (l : List Pst) : toPsts (psts l) = l := by simp [toPsts, psts, Function.comp_def]
@[simp] theorem isPsts_psts (l : List Pst) : isPsts (psts l) = true := by simp [isPsts, psts]
@[simp] theorem psts_length (l : List Pst) : (psts l).length = l.length := by simp [psts]
@[simp] theorem toPsts_length (xs : List (List C)) : (toPsts xs).length = xs.length := by simp [toPsts]
theorem psts_getD {l : List Pst} {i : Nat} (h : i < l.length) : (psts l).getD i [] = eo l[i] := by simp [psts, List.getD_eq_getElem?_getD, h]
@[simp] theorem psts_take (l : List Pst) (n : Nat) : (psts l).take n = psts (l.take n) := by simp [psts, List.map_take]
@[simp] theorem psts_drop (l : List Pst) (n : Nat) : (psts l).drop n = psts (l.drop n) := by simp [psts, List.map_drop]
@[simp] theorem psts_append (l m : List Pst) : psts l ++ psts m = psts (l ++ m) := by simp [psts]
theorem psts_snoc (l : List Pst) (p : List UInt8) (c k : Int) : psts l ++ [[C.str p, C.int .i64 c, C.int .i64 k]] = psts (l ++ [⟨p, c, k⟩]) := by simp [psts, eo]
theorem psts_snoc' (l : List Pst) (x : Pst) : psts l ++ [eo x] = psts (l ++ [x]) := by simp [psts]
theorem psts_nil : psts [] = [] := rfl
theorem eo_p (r : Pst) (d : C) : ((eo r).headD d).st = r.p := rfl
theorem eo_c (r : Pst) (d : C) : ((eo r).tail.headD d).i = r.c := rfl
theorem eo_k (r : Pst) (d : C) : ((eo r).tail.tail.headD d).i = r.k := rfl
theorem eo_mk (r : Pst) (d : C) : [Sk.str.mk ((eo r).headD d), (Sk.int .i64).mk ((eo r).tail.headD d), (Sk.int .i64).mk ((eo r).tail.tail.headD d)] = eo r := rfl
theorem eo_len (r : Pst) : (eo r).length = 3 := rfl

/-- A change: a path, what it had, and has; of both slices whether they are nil, tight. -/
structure Chg where
  p : List UInt8
  hn : Option Bool
  ht : Bool
  had : List Row
  nn : Option Bool
  nt : Bool
  now : List Row
  deriving DecidableEq, Inhabited
def eg (x : Chg) : List C := [.str x.p, .sl 5 x.hn x.ht (rows x.had), .sl 5 x.nn x.nt (rows x.now)]
def skG : List Sk := [.str, .slx 5, .slx 5]
def okG (c : List C) : Bool := shOk skG c && isRows ((c.tail.headD .pnil).xs) && isRows ((c.tail.tail.headD .pnil).xs)
def dG (c : List C) : Chg := ⟨(c.headD .pnil).st, (c.tail.headD .pnil).nl, (c.tail.headD .pnil).tt, toRows (c.tail.headD .pnil).xs, (c.tail.tail.headD .pnil).nl, (c.tail.tail.headD .pnil).tt, toRows (c.tail.tail.headD .pnil).xs⟩
def chgs (l : List Chg) : List (List C) := l.map eg
def toChgs (xs : List (List C)) : List Chg := xs.map dG
def isChgs (xs : List (List C)) : Bool := xs.all okG
theorem eg_of {c : List C} (h : okG c = true) : c = eg (dG c) := by
  simp only [okG, Bool.and_eq_true] at h
  obtain ⟨⟨h1, h2⟩, h3⟩ := h
  have e := shape_ok h1
  unfold eg dG
  simp only
  rw [← rows_of h2, ← rows_of h3]
  conv => lhs; rw [← e]
  rfl
theorem chgs_of {xs : List (List C)} (h : isChgs xs = true) : xs = chgs (toChgs xs) := by
  induction xs with
  | nil => rfl
  | cons c r ih =>
    simp only [isChgs, List.all_cons, Bool.and_eq_true] at h
    have h2 := ih h.2
    unfold chgs toChgs at h2 ⊢
    simp only [List.map_cons]
    rw [← h2, ← eg_of h.1]
@[simp] theorem dG_eg (r : Chg) : dG (eg r) = r := by simp [dG, eg, C.nl, C.tt, C.xs, C.st]
@[simp] theorem eg_ok (r : Chg) : okG (eg r) = true := by simp [okG, eg, skG, shOk, Sk.ok, C.xs]
@[simp] theorem eg_ok' (r : Chg) : shOk [Sk.str, Sk.slx 5, Sk.slx 5] (eg r) = true := rfl
@[simp] theorem toChgs_chgs (l : List Chg) : toChgs (chgs l) = l := by simp [toChgs, chgs, Function.comp_def]
@[simp] theorem isChgs_chgs (l : List Chg) : isChgs (chgs l) = true := by simp [isChgs, chgs]
@[simp] theorem chgs_length (l : List Chg) : (chgs l).length = l.length := by simp [chgs]
theorem chgs_getD {l : List Chg} {i : Nat} (h : i < l.length) : (chgs l).getD i [] = eg l[i] := by simp [chgs, List.getD_eq_getElem?_getD, h]
theorem eg_p (r : Chg) (d : C) : ((eg r).headD d).st = r.p := rfl
theorem eg_hn (r : Chg) (d : C) : ((eg r).tail.headD d).nl = r.hn := rfl
theorem eg_ht (r : Chg) (d : C) : ((eg r).tail.headD d).tt = r.ht := rfl
theorem eg_had (r : Chg) (d : C) : ((eg r).tail.headD d).xs = rows r.had := rfl
theorem eg_nn (r : Chg) (d : C) : ((eg r).tail.tail.headD d).nl = r.nn := rfl
theorem eg_nt (r : Chg) (d : C) : ((eg r).tail.tail.headD d).tt = r.nt := rfl
theorem eg_now (r : Chg) (d : C) : ((eg r).tail.tail.headD d).xs = rows r.now := rfl

/-! ## what the functions compute -/
/-- How two texts stand. -/
def cmpB (a b : List UInt8) : Int := if Op.bytesLess a b = true then -1 else if Op.bytesLess b a = true then 1 else 0
def cmpI (a b : Int) : Int := if a < b then -1 else if b < a then 1 else 0
def orderP (a b : Pst) : Int := if cmpB a.p b.p ≠ 0 then cmpB a.p b.p else cmpI a.c b.c
def lessP (a b : Pst) : Bool := Op.bytesLess a.p b.p || (decide (a.p = b.p) && decide (a.c < b.c))
def isPath (p : List UInt8) : Bool := decide (p ≠ []) && decide (p.length ≤ 24)
def wordP (k : Int) : List UInt8 := if k = 1 then [97, 100, 100, 101, 100] else if k = 2 then [99, 104, 97, 110, 103, 101, 100] else if k = 3 then [114, 101, 109, 111, 118, 101, 100] else []
def okOne (x : Pst) : Bool := isPath x.p && decide (1 ≤ x.c) && decide (x.c ≤ 500) && decide (1 ≤ x.k) && decide (x.k ≤ 3)
def okFromP : Option Pst → List Pst → Bool
  | _, [] => true
  | p, x :: r => (okOne x && (match p with | none => true | some w => lessP w x)) && okFromP (some x) r
/-- Postings are right. -/
def okP (l : List Pst) : Bool := okFromP none l
def checkP (l : List Pst) : Int := if okP l = true then 0 else 2
def mergeP : Nat → List Pst → List Pst → Option (List Pst)
  | 0, _, _ => some []
  | _ + 1, [], m => some m
  | _ + 1, x :: l, [] => some (x :: l)
  | n + 1, x :: l, y :: m => if lessP x y = true then (mergeP n l (y :: m)).map (x :: ·) else if lessP y x = true then (mergeP n (x :: l) m).map (y :: ·) else none
/-- Do neighbours have the same key? -/
def twiceP : List Pst → Bool
  | x :: y :: r => decide (orderP x y = 0) || twiceP (y :: r)
  | _ => false
/-- Two lists as one: the postings, the error. -/
def addP (l m : List Pst) : List Pst × Int := if okP l = true ∧ okP m = true then (match mergeP (l.length + m.length) l m with | some s => (s, 0) | none => ([], 16)) else ([], 2)
/-- How many stand ahead of the first one that is not so, by halves. -/
def bsP (f : List UInt8 → Bool) (l : List Pst) : Nat → Nat → Nat → Nat
  | 0, lo, _ => lo
  | n + 1, lo, hi => if lo < hi then (if f (l.getD ((lo + hi) / 2) default).p = true then bsP f l n ((lo + hi) / 2 + 1) hi else bsP f l n lo ((lo + hi) / 2)) else lo
def bsO (f : List UInt8 → Bool) (l : List Pst) : Nat := bsP f l l.length 0 l.length
def withinP (l : List Pst) (f g : List UInt8 → Bool) : List Pst := if okP l = true then (l.take (bsO (fun p => f p || g p) l)).drop (bsO f l) else []
def begins (s p : List UInt8) : Bool := decide (p.length ≤ s.length) && decide (s.take p.length = p)
def probeP (l : List Pst) (p : List UInt8) : List Pst := if okP l = true then l.filter fun x => decide (x.p = p) else []
def underP (l : List Pst) (p : List UInt8) : List Pst := if okP l = true then l.filter fun x => begins x.p p else []
def onP (l : List Pst) (p : List UInt8) (some_ : List Int) : List Pst := some_.flatMap fun n => (probeP l p).filter fun x => decide (x.c = n)
/-- How a path changed; 0: it did not, or may not so. -/
def kindP (c : Chg) : Int := if c.had = [] then 1 else if c.now = [] then 3 else 2
def okC (c : Chg) : Bool := right c.had && right c.now && !decide (c.had = c.now)
def ofG (n : Int) (l : List Chg) : List Pst := l.map fun c => ⟨c.p, n, kindP c⟩
def ofP (l : List Chg) (n : Int) : List Pst × Int := if (l.all okC) = true ∧ 1 ≤ n ∧ n ≤ 500 ∧ okP (ofG n l) = true then (ofG n l, 0) else ([], 2)
end Go.Proofs.YtbilmkcdhodenaaDoor
