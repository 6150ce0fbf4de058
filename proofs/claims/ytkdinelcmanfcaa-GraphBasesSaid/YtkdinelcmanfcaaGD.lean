/-
  Chapter 12 (graph): commits as cells; what each function of graph computes, in plain Lean; what is known of each as a callee.
-/
import Derived.Test.YtkdinelcmanfcaaEnvG12
import Derived.Test.YtkdinelcmanfcaaEvM
set_option linter.unusedSimpArgs false
set_option linter.unusedVariables false
namespace Go.Proofs.Ytkdinelcmanfcaa
open Go Go.Ev

/-- A commit: its parents, its stamp. -/
abbrev Cm := List Int × Int
def ec (c : Cm) : List C := [.sl 1 none false (ints c.1), .int .i64 c.2]
def repo (l : List Cm) : List (List C) := l.map ec
def toRepo (xs : List (List C)) : List Cm := xs.map fun c => (toInts (c.headD .pnil).xs, (c.tail.headD .pnil).i)
def isRepo (xs : List (List C)) : Bool := xs.all fun c => shOk [.sl 1, .int .i64] c && isInts (c.headD .pnil).xs

theorem ec_of {c : List C} (h : (shOk [.sl 1, .int .i64] c && isInts (c.headD .pnil).xs) = true) : c = ec (toInts (c.headD .pnil).xs, (c.tail.headD .pnil).i) := by
  simp only [Bool.and_eq_true] at h
  have h1 := shape_ok h.1
  unfold ec
  rw [← ints_of h.2]
  conv => lhs; rw [← h1]
  rfl
theorem repo_of {xs : List (List C)} (h : isRepo xs = true) : xs = repo (toRepo xs) := by
  induction xs with
  | nil => rfl
  | cons c r ih =>
    simp only [isRepo, List.all_cons] at h
    rw [Bool.and_eq_true] at h
    have h2 := ih h.2
    unfold repo toRepo at h2 ⊢
    simp only [List.map_cons]
    rw [← h2, ← ec_of h.1]
@[simp] theorem toRepo_repo (l : List Cm) : toRepo (repo l) = l := by
  simp [toRepo, repo, ec, Function.comp_def, C.xs, C.i]
@[simp] theorem isRepo_repo (l : List Cm) : isRepo (repo l) = true := by
  simp [isRepo, repo, ec, shOk, Sk.ok, C.xs]
@[simp] theorem repo_length (l : List Cm) : (repo l).length = l.length := by simp [repo]
theorem repo_getD {l : List Cm} {i : Nat} (h : i < l.length) : (repo l).getD i [] = ec l[i] := by
  simp [repo, List.getD_eq_getElem?_getD, h]
@[simp] theorem ec_ok (c : Cm) : shOk [.sl 1, .int .i64] (ec c) = true := rfl
@[simp] theorem ec_par (c : Cm) (d : C) : ((ec c).headD d).xs = ints c.1 := rfl
@[simp] theorem ec_stamp (c : Cm) (d : C) : ((ec c).tail.headD d).i = c.2 := rfl
@[simp] theorem repo_take (l : List Cm) (n : Nat) : (repo l).take n = repo (l.take n) := by simp [repo, List.map_take]
@[simp] theorem repo_drop (l : List Cm) (n : Nat) : (repo l).drop n = repo (l.drop n) := by simp [repo, List.map_drop]
@[simp] theorem repo_append (l m : List Cm) : repo l ++ repo m = repo (l ++ m) := by simp [repo]

/-! ## graph: check -/
/-- No number of a commit of so many. -/
def noNum (len : Nat) (n : Int) : Bool := decide (n < 1) || decide ((len : Int) < n)
def lateFor (l : List Cm) (st n : Int) : Bool := decide (st ≤ (l.getD (n - 1).toNat ([], 0)).2)
def faultG (l : List Cm) (c : Cm) : Int :=
  if c.2 < 0 ∨ 1099511627776 < c.2 ∨ 2 < c.1.length ∨ (c.1.length = 2 ∧ c.1.getD 0 0 = c.1.getD 1 0) then 2
  else if c.1.any (noNum l.length) then 17
  else if c.1.any (lateFor l c.2) then 14
  else 0
/-- The first commit that is not right, and why. -/
def checkFrom (l : List Cm) : Nat → Nat → Int × Int
  | 0, _ => (l.length, 0)
  | k + 1, i => if faultG (l.take i) (l.getD i ([], 0)) = 0 then checkFrom l k (i + 1) else (i + 1, faultG (l.take i) (l.getD i ([], 0)))
def checkG (l : List Cm) : Int × Int := if 500 < l.length then (500, 5) else checkFrom l l.length 0
def few (l : List Cm) : Bool := decide (l.length ≤ 60) && l.all fun c => decide (c.1.length ≤ 10)

def s49 : CSpec := fun a h => match a, h with
  | [.c (.int .i64 n), .ptr 0 0 0 0], [.box [.c (.sl 2 nl t xs)]] => some ([], [V.b (noNum xs.length n)], [.box [.c (.sl 2 nl t xs)]])
  | _, _ => none
def s47 : CSpec := s49
def s50 : CSpec := fun a h => match a, h with
  | [.c (.int .i64 n), .ptr 0 0 0 0, .ptr 1 0 0 0], [.box [.c (.sl 2 nl t xs)], .box [.c c, .c (.int .i64 st)]] =>
    some ([isRepo xs, !noNum xs.length n, decide (xs.length ≤ 500)], [V.b (lateFor (toRepo xs) st n)], [.box [.c (.sl 2 nl t xs)], .box [.c c, .c (.int .i64 st)]])
  | _, _ => none
end Go.Proofs.Ytkdinelcmanfcaa
