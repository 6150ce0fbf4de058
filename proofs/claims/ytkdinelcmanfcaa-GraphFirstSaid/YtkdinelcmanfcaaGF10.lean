/-
  Chapter 12 (graph): the document's examples, by the kernel.
-/
import Derived.Test.YtkdinelcmanfcaaEnvG12
import Derived.Test.YtkdinelcmanfcaaEvM
set_option linter.unusedSimpArgs false
set_option linter.unusedVariables false
namespace Go.Proofs.Ytkdinelcmanfcaa
open Go Go.Ev
theorem f10 : call E 10 [] [] = some ([V.b true], []) := call_iff.2 ⟨700, by kernel_rfl⟩
end Go.Proofs.Ytkdinelcmanfcaa
