/-
  The environment of these proofs is right.
-/
import Derived.Test.YtbilmkcdhodenaaDoorAE
import Derived.Test.YtbilmkcdhodenaaDoorARunS
set_option linter.all false
set_option linter.unusedSimpArgs false
set_option linter.unusedVariables false
namespace Go.Proofs.YtbilmkcdhodenaaDoor
open Go Go.Ev

theorem mixedOk : Tryd.prog.follows .mixedOrders = true := by kernel_rfl
theorem drawOk : DrawOk Tryd.prog Kw := draw_ok mixedOk
theorem envOk : EnvOk Tryd.prog Kw E := env_ok fun g f args H vals H' h1 h2 => by
  unfold xt at h1
  split at h1 <;> simp only [Option.some.injEq, reduceCtorEq] at h1
  · subst h1; exact sound196 h2
end Go.Proofs.YtbilmkcdhodenaaDoor
