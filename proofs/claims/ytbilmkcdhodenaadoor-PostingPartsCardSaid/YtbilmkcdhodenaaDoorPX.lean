/-
  What is told to EV by itself at this seat: strings.Compare, slices.SortFunc at []api.Posting.
-/
import Derived.Test.YtbilmkcdhodenaaDoorPD
import Derived.Sort.Defs
import Derived.Lib.BitFns
set_option linter.all false
set_option linter.unusedSimpArgs false
set_option linter.unusedVariables false
namespace Go.Proofs.YtbilmkcdhodenaaDoor
open Go Go.Ev Go.Sort

def x126 : List V → Hp → Option (List V × Hp) := fun a h => match a, h with
  | [.c (.str s), .c (.str t)], [] => some ([V.i (cmpB s t)], [])
  | _, _ => none
/-- What slices.SortFunc makes of postings. -/
def sortO (l : List Pst) : List Pst := (pdq (fun x y => decide (orderP x y < 0)) l.toArray 0 l.length (Lib.bitLen l.length) true true).toList
def x80 : List V → Hp → Option (List V × Hp) := fun a h => match a, h with
  | [.buf 0 0 0 len, .fn 81 []], [.mem 3 0 xs] => if isPsts xs = true ∧ len = xs.length ∧ xs.length < 4294967296 then some ([], [.mem 3 0 (psts (sortO (toPsts xs)))]) else none
  | _, _ => none
/-- What slices.Grow makes of nil. -/
def x123 : List V → Hp → Option (List V × Hp) := fun a h => match a, h with
  | [.c (.sl 3 (some true) true []), .c (.int .i64 n)], [] => if 0 ≤ n ∧ n < 4294967296 then some ([.buf 0 0 0 0], [.mem 3 0 []]) else none
  | _, _ => none
end Go.Proofs.YtbilmkcdhodenaaDoor
