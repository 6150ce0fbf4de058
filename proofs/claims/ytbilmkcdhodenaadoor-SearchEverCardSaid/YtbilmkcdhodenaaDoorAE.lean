/-
  The environment of these proofs: what is told to EV by itself.
-/
import Derived.Test.YtbilmkcdhodenaaDoorRD
import Derived.Test.YtbilmkcdhodenaaDoorEvY
set_option linter.all false
set_option linter.unusedSimpArgs false
set_option linter.unusedVariables false
namespace Go.Proofs.YtbilmkcdhodenaaDoor
open Go Go.Ev

def xt : FuncId → Option (List V → Hp → Option (List V × Hp)) := fun g => match g with
  | 196 => some x196
  | _ => none
noncomputable def E : Env := E0 xt sq
def s196 : CSpec := fun a h => match a, h with
  | [.c (.str s)], [] => some ([decide (s.length < 4294967296)], [V.i (runesL s)], [])
  | _, _ => none
theorem s196_ok : CSpecOk E 196 s196 := fun a h cs vals h' he hc => by
  unfold s196 at he
  split at he <;> simp only [Option.some.injEq, Prod.mk.injEq, reduceCtorEq] at he
  rename_i s
  obtain ⟨rfl, rfl, rfl⟩ := he
  simp only [allT, Bool.and_true, decide_eq_true_eq] at hc
  exact call_ext (f := x196) rfl (by simp only [x196, if_pos hc])
end Go.Proofs.YtbilmkcdhodenaaDoor
