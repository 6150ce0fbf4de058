/-
  Chapter 02 (span): how many runes a text has, as value.Runes tells; told to EV.
-/
import Derived.Test.YtbilmkcdhodenaaDoorEvN
import Derived.Test.YtbilmkcdhodenaaDoorProg
set_option linter.all false
set_option linter.unusedSimpArgs false
set_option linter.unusedVariables false
namespace Go.Proofs.YtbilmkcdhodenaaDoor
open Go Go.Ev

/-- How many runes there are from a place on; none: one of them is none. -/
def runesN (s : ByteArray) : Nat → Nat → Option Nat
  | 0, _ => some 0
  | f + 1, pos => if pos < s.size then (if (Utf8.decode s pos).1 = 65533 ∧ (Utf8.decode s pos).2 < 2 then none else (runesN s f (pos + (Utf8.decode s pos).2)).map (· + 1)) else some 0

theorem width_pos (s : ByteArray) (pos : Nat) : 1 ≤ (Utf8.decode s pos).2 := by
  simp only [Utf8.decode]
  repeat' split
  all_goals simp
theorem runesN_end (s : ByteArray) {f pos : Nat} (h : ¬ pos < s.size) : runesN s f pos = some 0 := by
  cases f with
  | zero => rfl
  | succ f => simp only [runesN, if_neg h]

theorem runesN_step {s : ByteArray} {f pos c wd : Nat} (hc : (Utf8.decode s pos).1 = c) (hw : (Utf8.decode s pos).2 = wd) (hp : pos < s.size) : runesN s (f + 1) pos = if c = 65533 ∧ wd < 2 then none else (runesN s f (pos + wd)).map (· + 1) := by
  simp only [runesN, if_pos hp, hc, hw]

def runesI : Option Nat → Int
  | some n => n
  | none => -1
def runesL (s : List UInt8) : Int := runesI (runesN ⟨s.toArray⟩ s.length 0)
def x196 : List V → Hp → Option (List V × Hp) := fun a h => match a, h with
  | [.c (.str s)], [] => if s.length < 4294967296 then some ([V.i (runesL s)], []) else none
  | _, _ => none

end Go.Proofs.YtbilmkcdhodenaaDoor
