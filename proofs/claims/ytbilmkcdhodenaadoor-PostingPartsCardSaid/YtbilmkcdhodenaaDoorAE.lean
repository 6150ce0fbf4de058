/-
  The environment of this seat's proofs: what is told to EV by itself.
-/
import Derived.Test.YtbilmkcdhodenaaDoorPX
import Derived.Test.YtbilmkcdhodenaaDoorEvY
set_option linter.all false
set_option linter.unusedSimpArgs false
set_option linter.unusedVariables false
namespace Go.Proofs.YtbilmkcdhodenaaDoor
open Go Go.Ev

def sq : FuncId → List V → Hp → Option (List (List V)) := fun _ _ _ => none
noncomputable def xt : FuncId → Option (List V → Hp → Option (List V × Hp)) := fun g => match g with
  | 196 => some x196
  | 126 => some x126
  | 80 => some x80
  | 123 => some x123
  | _ => none
noncomputable def E : Env := E0 xt sq
def s196 : CSpec := fun a h => match a, h with
  | [.c (.str s)], [] => some ([decide (s.length < 4294967296)], [V.i (runesL s)], [])
  | _, _ => none
theorem s196_ok : CSpecOk E 196 s196 := fun a h cs vals h' he hc => by
  unfold s196 at he
  split at he <;> simp only [Option.some.injEq, Prod.mk.injEq, reduceCtorEq] at he
  rename_i s
  obtain ⟨rfl, rfl, rfl⟩ := he
  simp only [allT, Bool.and_true, decide_eq_true_eq] at hc
  exact call_ext (f := x196) rfl (by simp only [x196, if_pos hc])
def s126 : CSpec := fun a h => match a, h with
  | [.c (.str s), .c (.str t)], [] => some ([], [V.i (cmpB s t)], [])
  | _, _ => none
theorem s126_ok : CSpecOk E 126 s126 := fun a h cs vals h' he hc => by
  unfold s126 at he
  split at he <;> simp only [Option.some.injEq, Prod.mk.injEq, reduceCtorEq] at he
  obtain ⟨rfl, rfl, rfl⟩ := he
  exact call_ext (f := x126) rfl rfl
def s80 : CSpec := fun a h => match a, h with
  | [.buf 0 0 0 len, .fn 81 []], [.mem 3 0 xs] => some ([isPsts xs, decide (len = xs.length), decide (xs.length < 4294967296)], [], [.mem 3 0 (psts (sortO (toPsts xs)))])
  | _, _ => none
theorem s80_ok : CSpecOk E 80 s80 := fun a h cs vals h' he hc => by
  unfold s80 at he
  split at he <;> simp only [Option.some.injEq, Prod.mk.injEq, reduceCtorEq] at he
  rename_i len xs
  obtain ⟨rfl, rfl, rfl⟩ := he
  simp only [allT, Bool.and_true, Bool.and_eq_true, decide_eq_true_eq] at hc
  exact call_ext (f := x80) rfl (by simp only [x80, if_pos hc])
def s123 : CSpec := fun a h => match a, h with
  | [.c (.sl 3 (some true) true []), .c (.int .i64 n)], [] => some ([decide (0 ≤ n), decide (n < 4294967296)], [.buf 0 0 0 0], [.mem 3 0 []])
  | _, _ => none
theorem s123_ok : CSpecOk E 123 s123 := fun a h cs vals h' he hc => by
  unfold s123 at he
  split at he <;> simp only [Option.some.injEq, Prod.mk.injEq, reduceCtorEq] at he
  obtain ⟨rfl, rfl, rfl⟩ := he
  simp only [allT, Bool.and_true, Bool.and_eq_true, decide_eq_true_eq] at hc
  exact call_ext (f := x123) rfl (by simp only [x123, if_pos hc])
end Go.Proofs.YtbilmkcdhodenaaDoor
