/-
  Chapter 31 (search): the document's example is told: run by the kernel.
-/
import Derived.Test.YtbilmkcdhodenaaDoorAE
set_option linter.all false
set_option linter.unusedSimpArgs false
set_option linter.unusedVariables false
namespace Go.Proofs.YtbilmkcdhodenaaDoor
open Go Go.Ev
theorem f14 : call E 14 [] [] = some ([V.b true], []) := call_iff.2 ⟨200, by kernel_rfl⟩
def s14 : CSpec := fun a h => match a, h with
  | [], [] => some ([], [V.b true], [])
  | _, _ => none
theorem s14_ok : CSpecOk E 14 s14 := by
  intro a h cs vals h' he hc
  unfold s14 at he
  split at he <;> simp only [Option.some.injEq, Prod.mk.injEq, reduceCtorEq] at he
  obtain ⟨rfl, rfl, rfl⟩ := he
  exact f14
end Go.Proofs.YtbilmkcdhodenaaDoor
